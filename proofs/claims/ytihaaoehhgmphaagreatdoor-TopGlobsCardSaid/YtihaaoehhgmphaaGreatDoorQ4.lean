/- Texts of one proof, one behind the other. Conditions: as each theorem names them. -/
import Derived.Test.YtihaaoehhgmphaaGreatDoorQ3
import Derived.Maps.Keyed
import Derived.Laws.IdiomRangeMap
import Derived.DeepKeys5
import Derived.StringKeys
import Derived.Lib.ItoaMem
import Derived.Lib.Bytealg
import Derived.Tactics
import Derived.Tactics2
import Derived.Defers
import Derived.Recover
import Derived.Laws.Pointers
set_option linter.all false
namespace Go.Proofs.YtihaaoehhgmphaaGreatDoor
open IntKind Go.RowKit Vc
abbrev KV:=Value×Value
def kvs(ms:List MapEntry):List KV:=ms.map λe=>(e.key,e.val)
structure Eo(ms:Array MapEntry)(c:Nat)(es:List KV):Prop where
 kv:kvs ms.toList=es
 nodup:(es.map Prod.fst).Nodup
 born:(ms.toList.map (·.born)).Nodup
 lt:∀e∈ms.toList,e.born<c
def dH(w:World)(g:Nat)(es:List KV):Prop:=∃ms c,w.heap[g]?=some (.map ms c)/\Eo ms c es
section
variable{w w':World}{g:Nat}{es:List KV}
def dH.lt(h:dH w g es):g<w.heap.size:=by obtain⟨ms,c,h,_⟩:=h;exact(aIf.1 h).1
def dH.same(h:dH w g es)(hb:w'.heap[g]?=w.heap[g]?):dH w' g es:=by obtain⟨ms,c,h,h2⟩:=h;exact⟨ms,c,hb.trans h,h2⟩
def dH.mod{S:Nat->Prop}(h:dH w g es)(hm:Mod S w w')(hg:¬S g):dH w' g es:=h.same (hm.block g h.lt hg)
def dH.still(h:dH w g es)(hm:Still w w'):dH w' g es:=h.mod hm λh=>h
def dH.c7(h:dH w g es){k:Nat}{t:TypeId}{cs:Array Value}(hr:Row w k t cs):g≠k:=by rintro rfl;obtain⟨ms,c,h,_⟩:=h;obtain⟨fz,hr,_⟩:=hr;rw[h]at hr;cases hr
def dH.new(w:World):dH (w.alloc (.map #[] 0)) w.heap.size []:=
 ⟨#[],0,heap_alloc_new w _,rfl,by simp,by simp,by simp⟩
def dH.none{ms:Array MapEntry}{c:Nat}(h:dH w g es)(hb:w.heap[g]?=some (.map ms c)):Eo ms c es:=by obtain⟨ms',c',h1,h2⟩:=h;rw[hb]at h1;injection h1 with h1;injection h1 with e1 e2;subst e1 e2;exact h2
def Eo.copy{ms:Array MapEntry}{c:Nat}(h:Eo ms c es)(w:World):dH (w.alloc (.map ms c)) w.heap.size es:=⟨ms,c,heap_alloc_new w _,h⟩
end
section
variable{P:Program}{T tk te:TypeId}{w:World}{g:Nat}{es:List KV}{key:Value}{lk:Lit}
def awA{ms:List MapEntry}{j:Nat}{e:MapEntry}(h:ms[j]?=some e):(kvs ms)[j]?=some (e.key,e.val):=by simp[kvs,h]
def DO(KL:WideMaps.KeyLaw P tk)(hT:P.underlying T=some (.map tk te)){z:Value}(hz:(zeroValue te).run P w=.ok z w)(hm:dH w g es)(hk:keyOf P tk key=some lk)(Iw:∀p∈es,∃l,keyOf P tk p.1=some l)(b:Bool):
  (∃v,(key,v)∈es/\(Instr.lookup T (.map (some g)) key b).run P w=.ok (if b then .tuple #[v,.bool true]else v) w)\/
  ((∀p∈es,p.1≠key)/\(Instr.lookup T (.map (some g)) key b).run P w=.ok (if b then .tuple #[z,.bool false]else z) w):=by
 obtain⟨ms,c,hg,hG⟩:=hm;have hall:∀e∈ms.toList,∃l,keyOf P tk e.key=some l:=λe he=>Iw (e.key,e.val) (by rw[<-hG.kv];exact dM.2 ⟨e,he,rfl⟩);have K:=Maps.Keyed.of_law KL;rcases K.find w hk ms.toList hall with⟨h1,h2⟩|⟨j,e,h1,h2,h3⟩
 ·right
  refine⟨λp hp=>?_,?_⟩
  .rw[<-hG.kv]at hp
   obtain⟨e,he,rfl⟩:=dM.1 hp;exact h2 e he
  .simp[Instr.lookup,run_underlying hT,MapKept.run_getObj_map hg,KL.check w _ hk,h1,hz,Result.andThen]
 ·left
  refine⟨e.val,?_,?_⟩
  .rw[<-hG.kv,<-h3]
   exact dM.2 ⟨e,uf h2,rfl⟩
  .simp[Instr.lookup,run_underlying hT,MapKept.run_getObj_map hg,KL.check w _ hk,h1,Result.andThen]
def LH(w:World)(g:Nat)(o:Obj):Mod (λk=>k=g) w (ChangeMaps.setBlock w g o):=
 ⟨rfl,rfl,rfl,by simp[ChangeMaps.setBlock],λk _ hk=>by simp only[ChangeMaps.setBlock];rw[Xq (λe=>hk e.symm)]⟩
def aK6{w:World}{g:Nat}(h:g<w.heap.size)(o:Obj):(ChangeMaps.setBlock w g o).heap[g]?=some o:=by simp[ChangeMaps.setBlock,h]
def L9(KL:WideMaps.KeyLaw P tk)(hT:P.underlying T=some (.map tk te))(hm:dH w g es)(hk:keyOf P tk key=some lk)(Iw:∀p∈es,∃l,keyOf P tk p.1=some l)(hn:∀p∈es,p.1≠key)(v:Value):
  ∃w',(Instr.mapUpdate T (.map (some g)) key v).run P w=.ok () w'/\dH w' g (es++[(key,v)])/\Mod (λk=>k=g) w w'/\w'.heap.size=w.heap.size:=by
 have hlt:=hm.lt;obtain⟨ms,c,hg,hG⟩:=hm;have hall:∀e∈ms.toList,∃l,keyOf P tk e.key=some l:=λe he=>Iw (e.key,e.val) (by rw[<-hG.kv];exact dM.2 ⟨e,he,rfl⟩);have K:=Maps.Keyed.of_law KL;rcases K.find w hk ms.toList hall with⟨h1,_⟩|⟨j,e0,_,h2,h3⟩
 .refine⟨ChangeMaps.setBlock w g (.map (ms.push ⟨key,v,c⟩) (c+1)),?_,⟨_,_,aK6 hlt _,?_⟩,LH _ _ _,by simp[ChangeMaps.setBlock]⟩
  .simp[Instr.mapUpdate,run_underlying hT,MapKept.run_getObj_map hg,KL.check w false hk,h1,MapKept.run_setObj_map _ hg,Result.andThen,ChangeMaps.setBlock]
  .refine⟨?_,?_,?_,?_⟩
   .simp only[kvs,JT,aIW,gi,qR]
    rw[<-hG.kv];rfl
   .rw[aIW,Qe]
    refine⟨hG.nodup,by simp,λa ha b hb=>?_⟩;simp only[gi,qR,jb]at hb;subst hb;obtain⟨p,hp,rfl⟩:=dM.1 ha;exact hn p hp
   .rw[JT,aIW,Qe]
    refine⟨hG.born,by simp,λa ha b hb=>?_⟩;simp only[gi,qR,jb]at hb;subst hb;obtain⟨p,hp,rfl⟩:=dM.1 ha;have:=hG.lt p hp;omega
   .intro e he
    rw[JT,mE]at he;rcases he with he|he
    .have:=hG.lt e he;omega
    .obtain rfl:=jb.1 he
     exact lB _
 .exact absurd h3 (hn (e0.key,e0.val) (by rw[<-hG.kv];exact dM.2 ⟨e0,uf h2,rfl⟩))
def aeI(KL:WideMaps.KeyLaw P tk)(hT:P.underlying T=some (.map tk te)){l1 l2:List KV}{v0:Value}(hm:dH w g (l1++(key,v0)::l2))(hk:keyOf P tk key=some lk)(Iw:∀p∈l1++(key,v0)::l2,∃l,keyOf P tk p.1=some l)(v:Value):
  ∃w',(Instr.mapUpdate T (.map (some g)) key v).run P w=.ok () w'/\dH w' g (l1++(key,v)::l2)/\Mod (λk=>k=g) w w'/\w'.heap.size=w.heap.size:=by
 have hlt:=hm.lt;obtain⟨ms,c,hg,hG⟩:=hm;have hall:∀e∈ms.toList,∃l,keyOf P tk e.key=some l:=λe he=>Iw (e.key,e.val) (by rw[<-hG.kv];exact dM.2 ⟨e,he,rfl⟩);have K:=Maps.Keyed.of_law KL;rcases K.find w hk ms.toList hall with⟨_,h1⟩|⟨j,e0,h1,h2,h3⟩
 .have:(key,v0)∈kvs ms.toList:=by rw[hG.kv];simp
  obtain⟨e,he,h4⟩:=dM.1 this;exact absurd (fT Prod.fst h4) (h1 e he)
 .have hj:j<ms.size:=by
   have:=(iw.1 h2).1;simpa using this
  have hjl:j=l1.length:=by
   have e1:(l1++(key,v0)::l2)[j]?=some (e0.key,e0.val):=by rw[<-hG.kv];exact awA h2
   have e2:((l1++(key,v0)::l2).map Prod.fst)[j]?=some key:=by rw[vF,e1];simp[h3]
   have e3:((l1++(key,v0)::l2).map Prod.fst)[l1.length]?=some key:=by simp
   have nd:=hG.nodup;have hlen:j<((l1++(key,v0)::l2).map Prod.fst).length:=(iw.1 e2).1;exact(List.getElem?_inj hlen nd).1 (e2.trans e3.symm)
  have hk2:(ms[j]?.map (·.key)).getD key=key:=by
   have:ms[j]?=some e0:=by simpa using h2
   rw[this];simpa using h3
  have kv2:kvs (ms.modify j λe=>{e with key:=key,val:=v}).toList=l1++(key,v)::l2:=by
   have:kvs (ms.modify j λe=>{e with key:=key,val:=v}).toList=(kvs ms.toList).set j (key,v):=by
    apply qO;intro i;simp only[kvs,vF,Dl,JA,Fw,ke,JK]
    by_cases hi:j=i
    .subst hi
     simp[hj]
    .simp[hi]
   rw[this,hG.kv,hjl];simp
  have bn:(ms.modify j λe=>{e with key:=key,val:=v}).toList.map (·.born)=ms.toList.map (·.born):=by
   apply qO;intro i;simp only[vF,JA,Fw]
   by_cases hi:j=i
   .subst hi
    cases ms[j]?<;>simp
   .simp[hi]
  refine⟨ChangeMaps.setBlock w g (.map (ms.modify j λe=>{e with key:=key,val:=v}) c),?_,⟨_,_,aK6 hlt _,kv2,?_,by rw[bn];exact hG.born,λe he=>?_⟩,LH _ _ _,by simp[ChangeMaps.setBlock]⟩
  .simp[Instr.mapUpdate,run_underlying hT,MapKept.run_getObj_map hg,KL.check w false hk,h1,hk2,KL.stays w hk,MapKept.run_setObj_map _ hg,Result.andThen,ChangeMaps.setBlock]
  .have:=hG.nodup
   simpa using this
  .have:e.born∈ms.toList.map (·.born):=by rw[<-bn];exact dM.2 ⟨e,he,rfl⟩
   obtain⟨e1,h5,h6⟩:=dM.1 this;rw[<-h6];exact hG.lt e1 h5
end
def pG(w:World)(b g:Nat)(es rest:List KV):Prop:=∃ms c seen,w.heap[g]?=some (.map ms c)/\Eo ms c es/\w.heap[b]?=some (.mapIter (some g) c seen c)/\(kvs (ms.toList.filter λe=>!seen.contains e.born)).Perm rest
section
variable{P:Program}{w:World}{b g:Nat}{es rest:List KV}
def pG.begin{ms:Array MapEntry}{c:Nat}(hb:w.heap[g]?=some (.map ms c))(hG:Eo ms c es):pG (w.alloc (.mapIter (some g) c #[] c)) w.heap.size g es es:=by
 have hlt:g<w.heap.size:=(aIf.1 hb).1;refine⟨ms,c,#[],?_,hG,heap_alloc_new w _,?_⟩
 .rw[heap_alloc_old w _ hlt,hb]
 .have:(ms.toList.filter λe=>!(#[]:Array Nat).contains e.born)=ms.toList:=FA.2 λx _=>by simp
  rw[this,hG.kv]
def pG.mod{w':World}{S:Nat->Prop}(h:pG w b g es rest)(hm:Mod S w w')(h1:¬S b)(h2:¬S g):pG w' b g es rest:=by obtain⟨ms,c,seen,a1,a2,a3,a4⟩:=h;exact⟨ms,c,seen,(hm.block g (aIf.1 a1).1 h2).trans a1,a2,(hm.block b (aIf.1 a3).1 h1).trans a3,a4⟩
def pG.map(h:pG w b g es rest):dH w g es:=by obtain⟨ms,c,seen,a1,a2,_⟩:=h;exact⟨ms,c,a1,a2⟩
def apv(P:Program){w:World}{b g c:Nat}{seen:Array Nat}(hb:w.heap[b]?=some (.mapIter (some g) c seen c))(o:Obj):(setObj b o).run P w=.ok () (ChangeMaps.setBlock w b o):=by simp only[setObj,Sem.run,hb];rfl
def SN(h:pG w b g es rest):
  (rest=[]/\∀ty,(Instr.next (.pointer (some ⟨b,0,none⟩)) false ty).run P w=.ok (.tuple #[.bool false]) w)\/
  ∃k x rest' w',rest.Perm ((k,x)::rest')/\(k,x)∈es/\(∀ty,(Instr.next (.pointer (some ⟨b,0,none⟩)) false ty).run P w=.ok (.tuple #[.bool true,k,x]) w')/\(Instr.entry (.pointer (some ⟨b,0,none⟩))).run P w'=.ok (.tuple #[k,x]) w'/\pG w' b g es rest'/\Mod (λi=>i=b) w w'/\w'.heap.size=w.heap.size:=by
 obtain⟨ms,c,seen,hg,hG,hb,hp⟩:=h;have mQ:b<w.heap.size:=(aIf.1 hb).1;have hne:g≠b:=by rintro rfl;rw[hg]at hb;cases hb
 have hold:∀x∈ms.toList,x.born<c:=hG.lt;have e0:(ms.toList.filter λe=>!seen.contains e.born)=(ms.filter λe=>!seen.contains e.born).toList:=by simp
 rw[e0]at hp;have hmem:∀x∈(ms.filter λe=>!seen.contains e.born).toList,x∈ms.toList/\(!seen.contains x.born)=true:=λx hx=>by simpa using hx
 have hnd:((ms.filter λe=>!seen.contains e.born).toList.map (·.born)).Nodup:=by rw[<-e0];exact(List.filter_sublist.map _).nodup hG.born
 have run:∀ty,(Instr.next (.pointer (some ⟨b,0,none⟩)) false ty).run P w=((do
   let left:=ms.filter λe=>!seen.contains e.born
   let old:=left.filter (·.born<c)
   let new:=left.filter (·.born≥c)
   let candidates:=(if old.isEmpty then#[none]else#[])++(old++new).map some
   match candidates[<-choose (.mapNext candidates.size)]? with
   |some (some e)=>
    setObj b (.mapIter (some g) c (seen.push e.born) c)
    pure (.tuple #[.bool true,e.key,e.val])
   |some none=>pure (.tuple #[.bool false])
   |none=>stuck "Next: no such candidate"):Sem Value).run P w:=by
  intro ty;simp only[Instr.next,getObj,Sem.run_bind,Sem.run,hb,hg,Result.andThen,next_test_false seen ms c c hold (aR _),l9,jq];rfl
 simp only[run];generalize hL:(ms.filter λe=>!seen.contains e.born)=L at*;have e1:L.filter (λx=>decide (x.born<c))=L:=Array.filter_eq_self.2 (λx hx=>by simpa using hold x (hmem x (by simpa using hx)).1);have e2:L.filter (λx=>decide (x.born≥c))=#[]:=by rw[Array.filter_eq_empty_iff];intro x hx;have:=hold x (hmem x (by simpa using hx)).1;simp;omega
 simp only[e1,e2,Array.append_empty]
 by_cases h0:L.size=0
 ·left
  have:L=#[]:=Array.eq_empty_of_size_eq_zero h0;subst this;refine⟨by simpa[kvs]using hp.symm,λ_=>?_⟩;simp[choose,Sem.run,Question.forced]
 ·right
  have agj:L.isEmpty=false:=by simp[Array.isEmpty,h0]
  simp only[agj,l9,jq,aLl,Array.size_map];have hch:∃(j:Nat) (w1:World),j<L.size/\(w1=w\/w1=w.drew)/\(choose (Question.mapNext L.size)).run P w=.ok j w1:=by
   by_cases hf:L.size<=1
   .exact⟨0,w,by omega,.inl rfl,by simp[choose,Sem.run,Question.forced,hf]⟩
   .exact⟨_,w.drew,Dz _ (by omega),.inr rfl,by simp only[choose,Sem.run,Question.forced,nk,hf,jq,Question.cut];rfl⟩
  obtain⟨j,w1,hj,hw1,hrun⟩:=hch;have hh:w1.heap=w.heap:=by rcases hw1 with rfl|rfl<;>rfl
  have gy:w1.heap[b]?=some (.mapIter (some g) c seen c):=by rw[hh];exact hb
  have hg1:w1.heap[g]?=some (.map ms c):=by rw[hh];exact hg
  have azV:b<w1.heap.size:=by rw[hh];exact mQ
  have dX:Mod (λi=>i=b) w w1:=by
   rcases hw1 with rfl|rfl
   .exact Mod.refl _ _
   .exact(Mod.refl _ _).drew
  have hjm:L[j]∈L.toList:=by simp
  have hset:∀o',(setObj b o').run P w1=.ok () (ChangeMaps.setBlock w1 b o'):=λo'=>apv P gy o';have NM:(ChangeMaps.setBlock w1 b (.mapIter (some g) c (seen.push L[j].born) c)).heap[b]?=some (.mapIter (some g) c (seen.push L[j].born) c):=aK6 azV _;have VX:(ChangeMaps.setBlock w1 b (.mapIter (some g) c (seen.push L[j].born) c)).heap[g]?=some (.map ms c):=by rw[<-hg1];exact(LH w1 b _).block g (aIf.1 hg1).1 (λe=>hne e)
  have qj:(kvs L.toList).Perm ((L[j].key,L[j].val)::kvs (ms.toList.filter λe=>!(seen.push L[j].born).contains e.born)):=by
   have e3:∀n:Nat,(ms.toList.filter λe=>!(seen.push n).contains e.born)=L.toList.filter λe=>!(e.born==n):=by intro n;rw[<-hL];simp only[Array.toList_filter,List.filter_filter];apply JU;intro x _;simp only[Array.contains_push];cases(x.born==n)<;>simp
   rw[e3];have:L.toList.Perm (L[j]::L.toList.filter λe=>!(e.born==L[j].born)):=by
    clear hp hrun hset NM VX e3 e1 e2 agj h0 e0 run hL;generalize L[j]=e at*;generalize L.toList=l at*;clear hmem
    induction l with
    |nil=>cases hjm
    |cons x l ih=>
     have hn2:x.born∉l.map (·.born)/\(l.map (·.born)).Nodup:=FM.1 hnd;rcases gE.1 hjm with rfl|hm
     .have:(l.filter λe'=>!(e'.born==e.born))=l:=FA.2 λy hy=>by
       have:y.born≠e.born:=λe'=>hn2.1 (by rw[<-e'];exact dM.2 ⟨y,hy,rfl⟩);simp[this]
      simp[this]
     .have:x.born≠e.born:=λe'=>hn2.1 (by rw[e'];exact dM.2 ⟨e,hm,rfl⟩)
      rw[Qs,aN (by simp[this])];exact((ih hn2.2 hm).cons x).trans (List.Perm.swap ..)
   exact this.map _
  refine⟨L[j].key,L[j].val,_,ChangeMaps.setBlock w1 b (.mapIter (some g) c (seen.push L[j].born) c),hp.symm.trans qj,?_,λ_=>?_,?_,⟨ms,c,_,VX,hG,NM,List.Perm.refl _⟩,Mod.trans dX (LH _ _ _) (λ_ h=>h) (λ_ _ h=>h),by simp[ChangeMaps.setBlock,hh]⟩
  .rw[<-hG.kv]
   exact dM.2 ⟨L[j],(hmem _ hjm).1,rfl⟩
  .simp only[hrun,Array.getElem?_map,Array.getElem?_eq_getElem hj,FL,Sem.run_bind,hset,Result.andThen]
   rfl
  .have hf:ms.find? (·.born==L[j].born)=some L[j]:=by rw[<-Array.find?_toList];exact find_born L[j] ms.toList hG.born (hmem _ hjm).1
   simp only[Instr.entry,getObj,Sem.run_bind,Sem.run,NM,VX,Result.andThen,Array.back?_push,bne_self_eq_false,l9,jq,hf];rfl
end
end Go.Proofs.YtihaaoehhgmphaaGreatDoor
namespace Go.Proofs.YtihaaoehhgmphaaGreatDoor
open IntKind Go.RowKit Vc
set_option maxRecDepth 100000
variable{w:World}
structure mR where
 k:Int
 m:Int
 d:ag
abbrev Tree:=List (ag×mR)
def B7:mR:=⟨0,0,[]⟩
def fU:Tree->ag->mR
 |[],_=>B7
 |(q,e)::r,p=>if q=p then e else fU r p
def gz(T:Tree)(p:ag):mR:=if p=[]then⟨2,7,[]⟩else fU T p
def aH3:Tree->ag->mR->Tree
 |[],p,e=>[(p,e)]
 |(q,x)::r,p,e=>if q=p then(p,e)::r else(q,x)::aH3 r p e
def uT(e:mR):List Value:=[.int .i64 e.k,.int .i64 e.m,.string (S e.d)]
def qs(e:mR):Value:=.agg ⟨uT e⟩
def lD(T:Tree):List KV:=T.map λx=>(.string (S x.1),qs x.2)
structure AU(e:mR):Prop where
 k:e.k=0\/e.k=1\/e.k=2
 m:0<=e.m/\e.m<=7
 d:e.d.length<=200000
def yZ(T:Tree):Prop:=∀x∈T,x.1.length<=1000/\AU x.2
def auS:AU B7:=⟨.inl rfl,by decide,by decide⟩
def adM:∀{T:Tree},yZ T->∀p,AU (fU T p)
 |[],_,_=>auS
 |(q,e)::r,h,p=>by
  unfold fU;split
  .exact(h (q,e) (by simp)).2
  .exact adM (λx hx=>h x (by simp[hx])) p
def T9{T:Tree}(h:yZ T)(p:ag):AU (gz T p):=by
 unfold gz;split
 .exact⟨.inr (.inr rfl),by decide,by decide⟩
 .exact adM h p
def BI:∀{T:Tree} {p:ag} {e:mR} {x:ag×mR},x∈aH3 T p e->x=(p,e)\/x∈T
 |[],p,e,x,h=>.inl (jb.1 h)
 |(q,y)::r,p,e,x,h=>by
  unfold aH3 at h;split at h
  .rcases gE.1 h with h|h
   .exact .inl h
   .exact .inr (Fx _ h)
  .rcases gE.1 h with h|h
   .exact .inr (by rw[h];simp)
   .rcases BI h with h|h
    .exact .inl h
    .exact .inr (Fx _ h)
def awB{T:Tree}(h:yZ T){p:ag}{e:mR}(hp:p.length<=1000)(he:AU e):yZ (aH3 T p e):=λx hx=>by
 rcases BI hx with rfl|hx
 .exact⟨hp,he⟩
 .exact h x hx
def abA:∀{T:Tree} {p:ag},(∀x∈T,x.1≠p)->fU T p=B7
 |[],_,_=>rfl
 |(q,e)::r,p,h=>by unfold fU;rw[aH (h (q,e) (by simp))];exact abA λx hx=>h x (by simp[hx])
def acE:∀{T:Tree} {p:ag} {e:mR},(T.map Prod.fst).Nodup->(p,e)∈T->fU T p=e
 |(q,x)::r,p,e,hn,h=>by
  rw[gi,FM]at hn;unfold fU;rcases gE.1 h with h|h
  .obtain⟨rfl,rfl⟩:=aJB h
   rw[aN rfl]
  .have:q≠p:=λe'=>hn.1 (by rw[e'];exact dM.2 ⟨_,h,rfl⟩)
   rw[aH this];exact acE hn.2 h
def abB:∀{T:Tree} {p:ag} {e:mR},(∀x∈T,x.1≠p)->aH3 T p e=T++[(p,e)]
 |[],_,_,_=>rfl
 |(q,x)::r,p,e,h=>by unfold aH3;rw[aH (h (q,x) (by simp)),abB λy hy=>h y (by simp[hy])];rfl
def acF:∀{T1 T2:Tree} {p:ag} {e x:mR},(∀y∈T1,y.1≠p)->aH3 (T1++(p,x)::T2) p e=T1++(p,e)::T2
 |[],T2,p,e,x,_=>by simp[aH3]
 |(q,y)::r,T2,p,e,x,h=>by rw[qP,aH3,aH (h (q,y) (by simp)),acF λz hz=>h z (by simp[hz])];rfl
def ZY{β:Type}:∀{T:List (ag×β)} {p:ag},(∃x∈T,x.1=p)->∃T1 x T2,T=T1++(p,x)::T2/\∀y∈T1,y.1≠p
 |[],p,h=>by obtain⟨x,hx,_⟩:=h;cases hx
 |(q,y)::r,p,h=>by
  by_cases hq:q=p
  .subst hq
   exact⟨[],y,r,rfl,by simp⟩
  .obtain⟨x,hx,e⟩:=h
   rcases gE.1 hx with rfl|hx
   .exact absurd e hq
   .obtain⟨T1,x2,T2,e1,e2⟩:=ZY ⟨x,hx,e⟩
    exact⟨(q,y)::T1,x2,T2,by rw[e1];rfl,λz hz=>by
     rcases gE.1 hz with rfl|hz
     .exact hq
     .exact e2 z hz⟩
def str_inj{a b:ag}(h:Value.string (S a)=.string (S b)):a=b:=by injection h with h;have:=fT ByteArray.toList h;simpa[xB]using this
def rZ{t:TypeId}{s:ag}(ht:Tryz.prog.underlying t=some .string)(hs:s.length<=maxLen):keyOf aL t (.string (S s))=some (.string s):=WideMaps.keyOf_string_mk ht hs
def qW{s:ag}(h:s.length<=1000):s.length<=maxLen:=by simp only[maxLen];omega
abbrev bJ:TypeId:=9
def vU:WideMaps.KeyLaw aL bJ:=WideMaps.string_law rfl
def SO:Tryz.prog.underlying F5=some (.map bJ qU):=rfl
def auT(w:World):(zeroValue qU).run aL w=.ok (qs B7) w:=rfl
def Si{T:Tree}(h:yZ T):∀p∈lD T,∃l,keyOf aL bJ p.1=some l:=λp hp=>by obtain⟨x,hx,rfl⟩:=dM.1 hp;exact⟨_,rZ rfl (qW (h x hx).1)⟩
def aqy{T:Tree}{g:Nat}(h:dH w g (lD T)):(T.map Prod.fst).Nodup:=by
 obtain⟨ms,c,_,hG⟩:=h;have:=hG.nodup;have e:(lD T).map Prod.fst=(T.map Prod.fst).map λp=>Value.string (S p):=by simp[lD,Dw,Function.comp_def]
 rw[e]at this;exact List.Pairwise.of_map (λp=>Value.string (S p)) (λa b h e=>h (by rw[e])) this
def ass{T:Tree}{g:Nat}(h:dH w g (lD T))(ok:yZ T){p:ag}(hp:p.length<=1000):(Instr.lookup F5 (.map (some g)) (.string (S p)) false).run aL w=.ok (qs (fU T p)) w:=by
 rcases DO vU SO (auT w) h (rZ rfl (qW hp)) (Si ok) false with⟨v,h1,h2⟩|⟨h1,h2⟩
 .obtain⟨x,hx,e⟩:=dM.1 h1
  obtain⟨e1,rfl⟩:=aJB e;have e1:=str_inj e1;rw[acE (e:=x.2) (aqy h) (by rw[<-e1];exact hx)];exact h2
 .rw[abA λx hx e=>h1 _ (dM.2 ⟨x,hx,rfl⟩) (by rw[e])]
  exact h2
def auU{T:Tree}{g:Nat}(h:dH w g (lD T))(ok:yZ T){p:ag}(hp:p.length<=1000)(e:mR):
  ∃w',(Instr.mapUpdate F5 (.map (some g)) (.string (S p)) (qs e)).run aL w=.ok () w'/\dH w' g (lD (aH3 T p e))/\Mod (λk=>k=g) w w'/\w'.heap.size=w.heap.size:=by
 by_cases hx:∃x∈T,x.1=p
 .obtain⟨T1,x,T2,rfl,h1⟩:=ZY hx
  rw[acF h1];have ek:=Si ok;simp only[lD,aIW,gi]at h ek⊢;exact aeI vU SO h (rZ rfl (qW hp)) ek _
 .have hn:∀x∈T,x.1≠p:=λx h e=>hx ⟨x,h,e⟩
  rw[abB hn];have:=L9 vU SO h (rZ rfl (qW hp)) (Si ok) (λq hq e'=>by obtain⟨x,hx,rfl⟩:=dM.1 hq;exact hn x hx (str_inj e')) (qs e);simpa[lD]using this
abbrev NN:=ag×Bool
def Ci(f:NN):Value:=.agg ⟨[.string (S f.1),.bool f.2]⟩
def aoH{d:Nat}{t:TypeId}{s:List UInt8}(ht:Tryz.prog.underlying t=some .string)(hs:(S s).size<=maxLen):∃l,Tryz.prog.keyLits (d+1) t [.string (S s)]=some l:=by unfold Program.keyLits;rw[ht];exact⟨_,aN hs⟩
def keyLits_bool'{d:Nat}{t:TypeId}{b:Bool}(ht:Tryz.prog.underlying t=some .bool):∃l,Tryz.prog.keyLits (d+1) t [.bool b]=some l:=by unfold Program.keyLits;rw[ht];exact⟨_,rfl⟩
set_option maxRecDepth 100000 in
def aqz:∃f1 f2:Field,Tryz.prog.underlying qS=some (.struct #[f1,f2])/\f1.offset=0/\f2.offset=1/\Tryz.prog.underlying f1.type=some .string/\Tryz.prog.underlying f2.type=some .bool/\Tryz.prog.cellsOf f1.type=1/\Tryz.prog.cellsOf f2.type=1/\(#[f1,f2].all (·.name != "_"))=true:=
 ⟨_,_,rfl,rfl,rfl,rfl,rfl,rfl,rfl,by simp⟩
def adN{f:NN}(ht:f.1.length<=1000):∃lk,keyOf aL qS (Ci f)=some lk:=by
 obtain⟨t,n⟩:=f;obtain⟨f1,f2,hu,e1,e2,u1,u2,c1,c2,ha⟩:=aqz;have hk:Tryz.prog.keyType qS=true:=by kernel_rfl
 have hc:Tryz.prog.cellsOf qS=2:=by kernel_rfl
 have hf:(Ci (t,n)).formed aL qS=true:=by simp only[Ci,Value.formed,hu,hc];rfl
 have hs:(S t).size<=maxLen:=qW ht;obtain⟨l1,h1⟩:=aoH (d:=Tryz.prog.types.size-1) u1 hs;obtain⟨l2,h2⟩:=keyLits_bool' (d:=Tryz.prog.types.size-1) (b:=n) u2;have hsz:Tryz.prog.types.size=Tryz.prog.types.size-1+1:=by
  have:0<Tryz.prog.types.size:=Yb λh=>by
   have hx:Nat.ble 1 Tryz.prog.types.size=true:=by kernel_rfl
   rw[h]at hx;cases hx
  omega
 have hl:∃ls,Tryz.prog.keyLits (Tryz.prog.types.size+1) qS [.string (S t),.bool n]=some ls:=by
  have e0:Tryz.prog.keyLits (Tryz.prog.types.size+1) qS [.string (S t),.bool n]=([f1,f2].mapM λf=>Tryz.prog.keyLits Tryz.prog.types.size f.type ((([Value.string (S t),.bool n]:List Value).drop f.offset).take (Tryz.prog.cellsOf f.type))).map List.flatten:=by
   conv=>lhs;unfold Program.keyLits
   rw[hu];exact aN ⟨by rw[hc];rfl,ha⟩
  refine⟨([l1,l2]:List (List Lit)).flatten,e0.trans ?_⟩;rw[aJy,e1,c1];have a1:Tryz.prog.keyLits Tryz.prog.types.size f1.type [.string (S t)]=some l1:=by rw[hsz];exact h1
  have a2:Tryz.prog.keyLits Tryz.prog.types.size f2.type [.bool n]=some l2:=by rw[hsz];exact h2
  have b2:([f2].mapM λf=>Tryz.prog.keyLits Tryz.prog.types.size f.type ((([Value.string (S t),.bool n]:List Value).drop f.offset).take (Tryz.prog.cellsOf f.type)))=some [l2]:=by
   rw[aJy,e2,c2];show(do let y<-Tryz.prog.keyLits Tryz.prog.types.size f2.type [.bool n];_)=_
   rw[a2];rfl
  rw[b2];show Option.map List.flatten (do let y<-Tryz.prog.keyLits Tryz.prog.types.size f1.type [.string (S t)];_)=_
  rw[a1];rfl
 obtain⟨ls,hl⟩:=hl;unfold keyOf;rw[hu];exact⟨.string (keyBytes ls),(aN (by rw[hk,hf];rfl)).trans (by show Option.map _ (Tryz.prog.keyLits (Tryz.prog.types.size+1) qS [.string (S t),.bool n])=_;rw[hl];rfl)⟩
set_option maxRecDepth 100000 in
def adO:WideMaps.KeyLaw aL qS:=deep_law (m:=3) (by decide) (by kernel_rfl) (by kernel_rfl) (by kernel_rfl)
def aeJ:Tryz.prog.underlying aj3=some (.map qS bJ):=rfl
def T_:Tryz.prog.underlying QB=some (.map bJ 4):=rfl
def Ep(l:List (NN×ag)):List KV:=l.map λx=>(Ci x.1,.string (S x.2))
def aH4(l:List ag):List KV:=l.map λx=>(.string (S x),.bool true)
def adP{l:List (NN×ag)}(h:∀x∈l,x.1.1.length<=1000):∀p∈Ep l,∃lk,keyOf aL qS p.1=some lk:=λp hp=>by obtain⟨x,hx,rfl⟩:=dM.1 hp;exact adN (h x hx)
def Tt{l:List ag}(h:∀x∈l,x.length<=1000):∀p∈aH4 l,∃lk,keyOf aL bJ p.1=some lk:=λp hp=>by obtain⟨x,hx,rfl⟩:=dM.1 hp;exact⟨_,rZ rfl (qW (h x hx))⟩
end Go.Proofs.YtihaaoehhgmphaaGreatDoor
namespace Go.Proofs.YtihaaoehhgmphaaGreatDoor
open IntKind Go.RowKit Vc
inductive Pr(α:Type)where
 |ok(n:α)
 |bad(k:Nat)
def rf(c:UInt8):Nat:=(c|||32).toNat
def uU(c:UInt8):Option Nat:=if 48<=c.toNat/\c.toNat<=57 then some (c.toNat-48)else if 97<=rf c/\rf c<=122 then some (rf c-97+10)else none
def aIM(b:Nat):ag->Nat->Pr Nat
 |[],n=>.ok n
 |c::s,n=>match uU c with
  |none=>.bad 2
  |some d=>if b<=d then .bad 2 else if 18446744073709551615<n*b+d then .bad 1 else aIM b s (n*b+d)
def lE(b:Nat)(s:ag):Pr Nat:=if s=[]then .bad 2 else aIM b s 0
def signed(neg:Bool)(r:Pr Nat):Pr Int:=match r with
 |.bad k=>.bad k
 |.ok n=>if neg=true then(if 9223372036854775808<n then .bad 1 else .ok (-(n:Int)))else if 9223372036854775808<=n then .bad 1 else .ok (n:Int)
def qe(b:Nat)(s:ag):Pr Int:=match s with
 |[]=>.bad 2
 |c::t=>if c=43 then signed false (lE b t)else if c=45 then signed true (lE b t)else signed false (lE b (c::t))
def abC{b:Nat}:∀{s:ag} {n k:Nat},aIM b s n=.bad k->k=1\/k=2
 |[],n,k,h=>by cases h
 |c::s,n,k,h=>by
  simp only[aIM]at h;split at h
  .injection h with h;exact .inr h.symm
  .split at h
   .injection h with h;exact .inr h.symm
   .split at h
    .injection h with h;exact .inl h.symm
    .exact abC h
def acG{b:Nat}:∀{s:ag} {n m:Nat},n<=18446744073709551615->aIM b s n=.ok m->m<=18446744073709551615
 |[],n,m,hn,h=>by injection h with h;omega
 |c::s,n,m,hn,h=>by
  simp only[aIM]at h;split at h
  .cases h
  .split at h
   .cases h
   .split at h
    .cases h
    .exact acG (by omega) h
def RZ{b:Nat}{s:ag}{k:Nat}(h:lE b s=.bad k):k=1\/k=2:=by
 unfold lE at h;split at h
 .injection h with h;exact .inr h.symm
 .exact abC h
def ast{b:Nat}{s:ag}{m:Nat}(h:lE b s=.ok m):m<=18446744073709551615:=by
 unfold lE at h;split at h
 .cases h
 .exact acG (by decide) h
def aaB{neg:Bool}{r:Pr Nat}{k:Nat}(hr:∀j,r=.bad j->j=1\/j=2)(h:signed neg r=.bad k):k=1\/k=2:=by
 unfold signed at h;split at h
 .injection h with h
  subst h;exact hr _ rfl
 .split at h
  .split at h
   .injection h with h;exact .inl h.symm
   .cases h
  .split at h
   .injection h with h;exact .inl h.symm
   .cases h
def aqA{b:Nat}{s:ag}{k:Nat}(h:qe b s=.bad k):k=1\/k=2:=by
 unfold qe at h;split at h
 .injection h with h;exact .inr h.symm
 .split at h
  .exact aaB (λ_=>RZ) h
  .split at h<;>exact aaB (λ_=>RZ) h
def Zw{neg:Bool}{r:Pr Nat}{n:Int}(h:signed neg r=.ok n): -9223372036854775808<=n/\n<9223372036854775808:=by
 unfold signed at h;split at h
 .cases h
 .split at h
  .split at h
   .cases h
   .injection h with h;omega
  .split at h
   .cases h
   .injection h with h;omega
def aoI{b:Nat}{s:ag}{n:Int}(h:qe b s=.ok n): -9223372036854775808<=n/\n<9223372036854775808:=by
 unfold qe at h;split at h
 .cases h
 .split at h
  .exact Zw h
  .split at h<;>exact Zw h
def aIA(c:UInt8):Bool:=decide (48<=c.toNat)&&decide (c.toNat<=57)
def azW(s:ag)(n:Nat):Nat:=s.foldl (λn c=>n*10+(c.toNat-48)) n
abbrev dec(n:Nat):ag:=Lib.decDigits n
def abD{n:Nat}(h:n<10):dec n=[UInt8.ofNat (48+n)]:=Lib.decDigits_one h
def auV{n:Nat}(h:¬n<10):dec n=dec (n/10)++[UInt8.ofNat (48+n%10)]:=by
 conv=>lhs;unfold dec;rw[Lib.decDigits]
 rw[dif_neg h]
def azX(s:ag):Option Nat:=if s≠[]/\s.length<=9/\s.all aIA=true/\(s.head?=some 48->s.length=1)then some (azW s 0)else none
def Lr{n:Nat}(h:n<1000000000):(dec n).length<=9:=by
 have key:∀(k m:Nat),m<10^(k+1)->(dec m).length<=k+1:=by
  intro k
  induction k with
  |zero=>intro m hm;rw[abD (by omega)];simp
  |succ k ih=>
   intro m hm;rcases w_ m 10 with h1|h1
   .rw[abD h1];simp
   .rw[auV (by omega),aHb]
    have:=ih (m/10) (by rw[Nat.pow_succ]at hm;omega);simp only[a_,cq];omega
 exact key 8 n (by omega)
def colon(s:ag):Nat:=(s.takeWhile (λc=>c !=58)).length
def step(s:ag):Option (ag×ag):=match azX (s.take (colon s))with
 |none=>none
 |some n=>if s[colon s+1+n]?=some 44 then some ((s.drop (colon s+1)).take n,s.drop (colon s+2+n))else none
def agk:Nat->ag->List ag->Option (List ag)
 |0,_,_=>none
 |f+1,s,acc=>if s=[]then some acc else match step s with
  |none=>none
  |some (x,r)=>agk f r (acc++[x])
def decode(s:ag):Option (List ag):=agk (s.length+1) s []
def one(x:ag):ag:=((dec x.length++[58])++x)++[44]
def encode(l:List ag):ag:=(l.map one).flatten
def aoe(l m:List ag):encode (l++m)=encode l++encode m:=by simp[encode]
def apw(x:ag)(m:List ag):encode (x::m)=one x++encode m:=by simp[encode]
def total(l:List ag):Nat:=(l.map λx=>x.length+1).sum
def Bz(x:ag)(l:List ag):total (x::l)=x.length+1+total l:=by simp[total]
def Zi(l:List ag)(k:Nat):total (l.take k)<=total l:=by
 have:=fT total (aIh k l);have h:∀a b:List ag,total (a++b)=total a+total b:=by intro a b;simp[total]
 rw[h]at this;omega
def Sj{l:List ag}{x:ag}(h:x∈l):x.length+1<=total l:=by
 induction l with
 |nil=>cases h
 |cons y l ih=>
  rw[Bz];rcases gE.1 h with rfl|h
  .omega
  .have:=ih h
   omega
def aoJ(l:List ag):l.length<=total l:=by
 induction l with
 |nil=>simp[total]
 |cons y l ih=>rw[Bz];simp only[a_];omega
def acH{l:List ag}(h:total l<=100000):∀x∈l,(dec x.length).length<=9:=λx hx=>Lr (by have:=Sj hx;omega)
def K0{l:List ag}(h:∀x∈l,(dec x.length).length<=9):(encode l).length<=11*total l:=by
 induction l with
 |nil=>simp[encode]
 |cons x l ih=>rw[apw,Bz,aHb];have:=ih (λy hy=>h y (by simp[hy]));have:=h x (by simp);simp only[one,aHb,a_,cq];omega
end Go.Proofs.YtihaaoehhgmphaaGreatDoor
namespace Go.Proofs.YtihaaoehhgmphaaGreatDoor
open IntKind Go.RowKit Vc
variable{w:World}
structure aID(w:World)(T g o B:Nat)(cs:List Value)(v:Value)(bs:List UInt8):Prop where
 row:Row w g T ⟨cs⟩
 addr:cs[o]?=some (.pointer none)\/cs[o]?=some (.pointer (some ⟨g,o,none⟩))
 buf:cs[o+1]?=some v
 own:aS w B 5 1 v bs.length (bc bs)
 ne:v.ownBlock≠some g
def Roomy(v:Value)(bs:List UInt8):Prop:=∀p c,v=.slice p bs.length c->p=none\/c≠0
structure aHt(w:World)(T g o B:Nat)(cs:List Value)(v:Value)(bs:List UInt8):Prop extends aID w T g o B cs v bs where
 room:Roomy v bs
def nV(T n o:Nat):Prop:=liesAt aL Tryz.prog.depth T (n/Tryz.prog.cellsOf T) o 86 1=true
def Row.shape{g:Nat}{t:TypeId}{cs:List Value}(h:Row w g t ⟨cs⟩):w.shape? g=some (t,cs.length):=by obtain⟨fz,h,_⟩:=h;simp[World.shape?,h]
def auW:Tc aL XN:=⟨_,Tryz.func163,by kernel_rfl,by kernel_rfl,by kernel_rfl,by kernel_rfl⟩
def Gz{α:Type}{l:List α}{i:Nat}{a:α}(h:l[i]?=some a):l.set i a=l:=by
 apply qO;intro j
 by_cases hj:i=j
 .subst hj
  rw[sX (iw.1 h).1,h]
 .rw[rN hj]
section
variable{T g o B:Nat}{cs:List Value}{v:Value}{bs:List UInt8}
def aID.roomy(h:aID w T g o B cs v bs)(hb:bs≠[]):aHt w T g o B cs v bs:=by refine⟨h,λp c e=>?_⟩;have hpos:0<bs.length:=nj.2 hb;obtain⟨g',cap,cur,hv,_,_,hcap,_⟩:=h.own.row hpos;rw[e]at hv;injection hv with _ _ AM;exact .inr (by omega)
def aID.lt(h:aID w T g o B cs v bs):o+1<cs.length:=(iw.1 h.buf).1
def aHt.lt(h:aHt w T g o B cs v bs):o+1<cs.length:=h.toaID.lt
def aHt.mod{S:Nat->Prop}{w':World}(h:aHt w T g o B cs v bs)(hm:Mod S w w')(hg:¬S g)(hv:∀k,v.ownBlock=some k->¬S k):aHt w' T g o B cs v bs:=
 ⟨⟨h.row.mod hm hg,h.addr,h.buf,h.own.mod hm hv,h.ne⟩,h.room⟩
def aHt.still{w':World}(h:aHt w T g o B cs v bs)(hm:Still w w'):aHt w' T g o B cs v bs:=h.mod hm (λh=>h) (λ_ _ h=>h)
def aHt.fresh(h:Row w g T ⟨cs⟩)(h0:cs[o]?=some (.pointer none))(h1:cs[o+1]?=some (.slice none 0 0)):aHt w T g o B cs (.slice none 0 0) []:=
 ⟨⟨h,.inl h0,h1,aS.nil _ _ _ _,by simp[Value.ownBlock]⟩,λp c e=>by injection e with e1 _ _;exact .inl e1.symm⟩
def aHt.other(h:aHt w T g o B cs v bs){w':World}{cs':List Value}(hr:Row w' g T ⟨cs'⟩)(hm:Mod (λk=>k=g) w w')(h0:cs'[o]?=cs[o]?)(h1:cs'[o+1]?=cs[o+1]?):aHt w' T g o B cs' v bs:=
 ⟨⟨hr,by rw[h0];exact h.addr,h1.trans h.buf,h.own.mod hm (λk hk e=>h.ne (by rw[hk,e])),h.ne⟩,h.room⟩
def Rf(h:aID w T g o B cs v bs)(hl:nV T cs.length o):an Js #[.pointer (some ⟨g,o,none⟩)] w
  (λe w'=>e=.returned (.tuple #[])/\aID w' T g o B (cs.set o (.pointer (some ⟨g,o,none⟩))) v bs/\Mod (λk=>k=g) w w'/\w'.heap.size=w.heap.size):=by
 apply ajr;have hlt:=h.lt;have hsh:=h.row.shape;rcases h.addr with h0|h0
 .refine⟨none,h.row.ai h0,ax (λ_=>?_) (λh=>by cases h)⟩
  refine⟨⟨_,_,hsh,by show o<_;omega⟩,auW,⟨_,_,hsh,hl⟩,dL h.row (by simp;omega) (by simp[Value.oneCell']) λw1 cy dX hz1=>⟨rfl,?_,dX,hz1⟩⟩;exact⟨cy,.inr (sX (by omega)),by show(cs.set o _)[o+1]?=_;rw[rN (by omega)];exact h.buf,h.own.mod dX (λk hk e=>h.ne (by rw[hk,e])),h.ne⟩
 .refine⟨_,h.row.ai h0,ax (λh=>by cases h) (λ_=>⟨_,h.row.ai h0,by kernel_rfl,rfl,rfl,?_,Mod.refl _ _,rfl⟩)⟩
  rw[Gz h0];exact h
def SQ{p p':Option Addr}{n n' m c c' s:Nat}(hb:oh p p' n' c c' s)(hn':n'=n+m)(h:∀q d,(Value.slice p n c)=.slice q n d->q=none\/d≠0){xs:List Value}{e:TypeId}{sz:Nat}(ho:aS w B e sz (.slice p' n' c') n' xs):
  ∀q d,(Value.slice p' n' c')=.slice q n' d->q=none\/d≠0:=by
 intro q d hq;injection hq with q1 _ q2;subst q1;subst q2;rcases hb with⟨rfl,rfl⟩|⟨_,h0⟩
 .exact h _ _ rfl
 .rcases ho.2 with⟨hv,h1⟩|⟨_,cap,_,hv,_,_,hc,_⟩
  .omega
  .injection hv with _ _ hv
   exact .inr (by omega)
def Kf(h:aID w T g o B cs v bs)(hl:nV T cs.length o)(s:List UInt8)(hB:B<=w.heap.size)(hs:bs.length+s.length<=140737488355328):
  an lR #[.pointer (some ⟨g,o,none⟩),.string (S s)] w (λe w'=>e=.returned (.tuple #[.int .i64 (s.length:Int),.nilIface])/\
   ∃v',aID w' T g o B ((cs.set o (.pointer (some ⟨g,o,none⟩))).set (o+1) v') v' (bs++s)/\(Roomy v bs->Roomy v' (bs++s))/\Mod (λk=>k=g\/v.ownBlock=some k) w w'):=by
 apply Xr;refine(Rf h hl).mono ?_;rintro _ w1 ⟨rfl,h1,dX,hz1⟩;obtain⟨p,c,rfl⟩:=h1.own.form;have hlt:=h.lt;refine .inl ⟨rfl,_,_,_,by rw[bM];exact h1.row.ai h1.buf,?_⟩;refine abz h1.own (by omega) (by omega) (by omega) λp' c' w2 ie hm2 fO=>?_;have hr2:=h1.row.mod hm2 (λe=>h1.ne e);show cA (Addr.add _ 1) _ _ _ _
 rw[bM];refine dL hr2 (by simp;omega) (by simp[Value.oneCell']) λw3 hr3 dx rA=>⟨rfl,_,⟨hr3,?_,?_,?_,?_⟩,?_,?_⟩
 .exact .inr (by show((cs.set o _).set (o+1) _)[o]?=_;rw[rN (by omega),sX (by omega)])
 .exact sX (by simp;omega)
 .have hne:(Value.slice p' (bs.length+s.length) c').ownBlock≠some g:=by
   rcases fO.own (n:=bs.length)with e|e
   .rw[e];exact h1.ne
   .rw[e];have:=h1.row.lt;exact λe=>by injection e with e;omega
  have:=ie.mod dx (λk hk e=>hne (by rw[hk,e]));rw[<-Gr]at this;rw[aHb];exact this
 .rcases fO.own (n:=bs.length)with e|e
  .rw[e];exact h1.ne
  .rw[e];have:=h1.row.lt;exact λe=>by injection e with e;omega
 .intro hroom
  rw[Roomy,aHb];exact SQ fO rfl hroom ie
 .exact Mod.trans dX (Mod.trans hm2 dx (U:=λk=>k=g\/(Value.slice p bs.length c).ownBlock=some k) (λ_ h=>.inr h) (λ_ _ h=>.inl h)) (λ_ h=>.inl h) (λ_ _ h=>h)
def anz(h:aID w T g o B cs v bs)(hl:nV T cs.length o)(x:UInt8)(hB:B<=w.heap.size)(hs:bs.length+1<=140737488355328):
  an Fs #[.pointer (some ⟨g,o,none⟩),.int .u8 (x.toNat:Int)] w (λe w'=>e=.returned .nilIface/\
   ∃v',aID w' T g o B ((cs.set o (.pointer (some ⟨g,o,none⟩))).set (o+1) v') v' (bs++[x])/\(Roomy v bs->Roomy v' (bs++[x]))/\Mod (λk=>k=g\/v.ownBlock=some k) w w'):=by
 apply ajt;refine(Rf h hl).mono ?_;rintro _ w1 ⟨rfl,h1,dX,hz1⟩;obtain⟨p,c,rfl⟩:=h1.own.form;have hlt:=h.lt;refine .inl ⟨rfl,_,_,_,by rw[bM];exact h1.row.ai h1.buf,aO λw1' azY AF aFw=>?_⟩;have mS:=h1.own.still AF;refine rT mS (by omega) (bc [x]) rfl (TR _) (λ_=>⟨_,rfl,λj u hu=>?_⟩) (by omega) (by omega) λp' c' w2 ie hm2 fO=>?_
 .rw[bM,cL]
  exact azY.ai hu
 have hg1:=h1.row.lt;have hr2:=(h1.row.still AF).mod hm2 (λe=>h1.ne e);show cA (Addr.add _ 1) _ _ _ _
 rw[bM];refine dL hr2 (by simp;omega) (by simp[Value.oneCell']) λw3 hr3 dx rA=>⟨rfl,_,⟨hr3,?_,?_,?_,?_⟩,?_,?_⟩
 .exact .inr (by show((cs.set o _).set (o+1) _)[o]?=_;rw[rN (by omega),sX (by omega)])
 .exact sX (by simp;omega)
 .have hne:(Value.slice p' (bs.length+1) c').ownBlock≠some g:=by
   rcases fO.own (n:=bs.length)with e|e
   .rw[e];exact h1.ne
   .rw[e];exact λe=>by injection e with e;omega
  have:=ie.mod dx (λk hk e=>hne (by rw[hk,e]));rw[<-Gr]at this;rw[aHb];exact this
 .rcases fO.own (n:=bs.length)with e|e
  .rw[e];exact h1.ne
  .rw[e];exact λe=>by injection e with e;omega
 .intro hroom
  rw[Roomy,aHb];exact SQ fO rfl hroom ie
 .have azZ:Mod (λk=>k=g\/(Value.slice p bs.length c).ownBlock=some k) w1 w3:=Mod.trans AF (Mod.trans hm2 dx (U:=λk=>k=g\/(Value.slice p bs.length c).ownBlock=some k) (λ_ h=>.inr h) (λ_ _ h=>.inl h)) (λ_ h=>h.elim) (λ_ _ h=>h)
  exact Mod.trans dX azZ (λ_ h=>.inl h) (λ_ _ h=>h)
def Bp(h:aHt w T g o B cs v bs)(hl:nV T cs.length o)(s:List UInt8)(hB:B<=w.heap.size)(hs:bs.length+s.length<=140737488355328):
  an lR #[.pointer (some ⟨g,o,none⟩),.string (S s)] w (λe w'=>e=.returned (.tuple #[.int .i64 (s.length:Int),.nilIface])/\
   ∃v',aHt w' T g o B ((cs.set o (.pointer (some ⟨g,o,none⟩))).set (o+1) v') v' (bs++s)/\Mod (λk=>k=g\/v.ownBlock=some k) w w'):=by
 refine(Kf h.toaID hl s hB hs).mono ?_;rintro _ w' ⟨rfl,v',h1,h2,h3⟩;exact⟨rfl,v',⟨h1,h2 h.room⟩,h3⟩
def Y_(h:aHt w T g o B cs v bs)(hl:nV T cs.length o)(x:UInt8)(hB:B<=w.heap.size)(hs:bs.length+1<=140737488355328):
  an Fs #[.pointer (some ⟨g,o,none⟩),.int .u8 (x.toNat:Int)] w (λe w'=>e=.returned .nilIface/\
   ∃v',aHt w' T g o B ((cs.set o (.pointer (some ⟨g,o,none⟩))).set (o+1) v') v' (bs++[x])/\Mod (λk=>k=g\/v.ownBlock=some k) w w'):=by
 refine(anz h.toaID hl x hB hs).mono ?_;rintro _ w' ⟨rfl,v',h1,h2,h3⟩;exact⟨rfl,v',⟨h1,h2 h.room⟩,h3⟩
def aKa(h:aHt w T g o B cs v bs)(hs:bs.length<=140737488355328):
  an uc #[.pointer (some ⟨g,o,none⟩)] w (λe w'=>e=.returned (.string (S bs))/\Mod (λk=>v.ownBlock=some k) w w'):=by
 apply ajz;obtain⟨p,c,rfl⟩:=h.own.form;refine⟨_,_,_,by rw[bM];exact h.row.ai h.buf,h.room _ _ rfl,_,_,_,by rw[bM];exact h.row.ai h.buf,?_⟩;refine⟨bs,rfl,by omega,?_⟩;rcases Decidable.em (bs=[])with rfl|h0
 .exact .inl ⟨rfl,rfl,(Mod.refl _ _).drew⟩
 .have hpos:0<bs.length:=nj.2 h0
  obtain⟨g',cap,cur,hv,_,hrow,hcap,hsz,_⟩:=h.own.row hpos;injection hv with hv1 _ AM;subst hv1;subst AM;refine .inr ⟨h0,g',cur.size,rfl,by obtain⟨fz,hh,_⟩:=hrow;exact(show World.shape? w g'=_ by simp[World.shape?,hh]),by omega,λj x hx=>?_,rfl,?_⟩
  .rw[bM,cL]
   exact h.own.cells rfl j _ (G5 hx)
  .unfold World.freeze
   split
   .exact(Mod.refl _ _).drew
   .exact⟨rfl,rfl,rfl,by simp,λk hk hn=>by simp only[Fw];rw[aH (λe=>hn (by rw[<-e];rfl))];rfl⟩
end
end Go.Proofs.YtihaaoehhgmphaaGreatDoor
namespace Go.Proofs.YtihaaoehhgmphaaGreatDoor
open IntKind Go.RowKit Vc
set_option maxRecDepth 100000
variable{w w0:World}
def Mod.awC{S:Nat->Prop}{a b:World}(h:Mod S a b){k:Nat}(hk:S k\/a.heap.size<=k)(o:Obj):Mod S a (b.putObj k o):=
 ⟨h.os,h.tape,h.output,by rw[World.putObj_size];exact h.size,λi hi hn=>(World.putObj_heap_other (by
  rintro rfl;rcases hk with hk|hk
  .exact hn hk
  .omega)).trans (h.block i hi hn)⟩
def uK(w:World)(k:Nat)(o:Obj):Mod (λn=>n=k) w (w.putObj k o):=(Mod.refl (λn=>n=k) w).awC (.inl rfl) o
def rV{k:Nat}{o:Obj}(h:w.heap[k]?=some o):k<w.heap.size:=(aIf.1 h).1
def lS{S:Nat->Prop}{w w':World}{k:Nat}{o:Obj}(h:w.heap[k]?=some o)(hm:Mod S w w')(hk:¬S k):w'.heap[k]?=some o:=(hm.block k (rV h) hk).trans h
structure Handler(k B:Nat)(Inv:(Nat->Prop)->List ag->World->Prop):Prop where
 step:∀X d x w,d.length<1000000->Inv X d w->aIl aL k [.string (S x)] w λe w'=>e=.returned (.bool true)/\Inv X (d++[x]) w'/\Mod (λi=>¬X i) w w'
 Er:∀X d w w',Inv X d w->Mod (λi=>X i/\B<=i) w w'->Inv X d w'
 grow:∀X d w w',Inv X d w->Still w w'->Inv (λi=>X i\/(w.heap.size<=i/\i<w'.heap.size)) d w'
def Handler.more{k B:Nat}{Inv:(Nat->Prop)->List ag->World->Prop}(h:Handler k B Inv)(X:Nat->Prop)(d:List ag)(w:World)(o:Obj)(hI:Inv X d w):Inv (λi=>X i\/i=w.heap.size) d (w.alloc o):=by have:=h.grow X d w (w.alloc o) hI ((Mod.refl _ _).alloc o);have e:(λi=>X i\/(w.heap.size<=i/\i<(w.alloc o).heap.size))=λi=>X i\/i=w.heap.size:=funext λi=>propext (by rw[World.size_alloc];exact or_congr_right (by omega));rwa[e]at this
def Hx(f:FuncId)(cap:List Value)(w0:World)(Rl:List ag->Prop)(D:Nat->Prop):Prop:=
 ∀k B Inv X w,Handler k B Inv->B<=w.heap.size->Inv X [] w->Still w0 w->(∀i,D i->X i)->an f ⟨aIC k::cap⟩ w λe w'=>e=.returned (.tuple #[])/\∃l' X',Rl l'/\Inv X' l' w'/\∀i,X i->X' i
def pz(w:World)(b:Nat):Nat:=match w.heap[b]? with
 |some (.mapIter (some g) _ seen _)=>match w.heap[g]? with
  |some (.map ms _)=>(kvs (ms.toList.filter λe=>!seen.contains e.born)).length
  |_=>0
 |_=>0
def DC{b g:Nat}{es rest:List KV}(h:pG w b g es rest):pz w b=rest.length:=by obtain⟨ms,c,seen,h1,h2,h3,h4⟩:=h;unfold pz;rw[h3];simp only[h1];exact h4.length_eq
def aqB{gm c0:Nat}{l:List ag}(hl:l.length<=1000000)(hm:dH w0 gm (aH4 l))(hc:Row w0 c0 QB ⟨[.map (some gm)]⟩):
  Hx Fp [.pointer (some ⟨c0,0,none⟩)] w0 (λl'=>l'.Perm l) (λi=>i=gm\/i=c0):=by
 intro k B Inv X w hH hB hI h0 hD;apply ai9;have dX:=hm.still h0;refine⟨_,rfl,(hc.still h0).ai rfl,?_⟩;obtain⟨ms,c,hg,hG⟩:=dX;refine⟨gm,ms,c,rfl,hg,?_⟩;have tN:gm<w.heap.size:=rV hg;have VY:=hH.more X [] w (.mapIter (some gm) c #[] c) hI;have VZ:=pG.begin hg hG;generalize hw1:w.alloc (.mapIter (some gm) c #[] c)=w1 at*;have V0:X gm:=hD _ (.inl rfl);refine⟨λms' w2=>ms'=[]/\∃d rest,pG w2 w.heap.size gm (aH4 l) rest/\Inv (λi=>X i\/i=w.heap.size) d w2/\(aH4 d++rest).Perm (aH4 l),λw2=>pz w2 w.heap.size,⟨rfl,[],aH4 l,VZ,VY,by simp[aH4]⟩,?_⟩;rintro _ ms' w2 ⟨rfl,d,rest,Ix,Iy,hp⟩;rcases SN (P:=aL) Ix with⟨rfl,hr⟩|⟨kk,x,rest',w3,qj,hmem,hr,he,aLd,m3,z3⟩
 .refine .inl ⟨w2,hr,rfl,d,_,?_,Iy,λi hi=>.inl hi⟩
  rw[aIk]at hp;have e:∀q:List ag,q=(aH4 q).map λp=>match p.1 with
    |.string s=>s.toList
    |_=>[]:=by
   intro q
   induction q with
   |nil=>rfl
   |cons a r ih=>simp only[aH4,gi,xB]at ih⊢;rw[<-ih]
  rw[e d,e l];exact hp.map _
 .obtain⟨t,ht,e⟩:=dM.1 hmem
  obtain⟨rfl,rfl⟩:=aJB e;have V2:=hH.Er _ _ _ _ Iy (m3.weaken λi e=>⟨.inr e,by rw[e];exact hB⟩);refine .inr ⟨_,_,w3,hr,t,.bool true,he,?_⟩;have hlen:d.length<1000000:=by have h1:=hp.length_eq;have h2:=qj.length_eq;simp only[aH4,aHb,ke,a_]at h1 h2;omega
  obtain⟨fn,tmps,a,b,h1,h2⟩:=hH.step _ _ t _ hlen V2;refine⟨fn,tmps,a,b,h1,h2.mono ?_⟩;rintro _ w4 ⟨rfl,V3,m4⟩;have Iz:=aLd.mod m4 (λh=>h (.inr rfl)) (λh=>h (.inl V0));refine⟨true,rfl,⟨rfl,d++[t],rest',Iz,V3,?_⟩,?_⟩
  .have:aH4 (d++[t])++rest'=aH4 d++((.string (S t),.bool true)::rest'):=by simp[aH4]
   rw[this];exact(XT _ qj.symm).trans hp
  .show pz w4 w.heap.size<pz w2 w.heap.size
   rw[DC Iz,DC Ix,qj.length_eq];exact lB _
def Za{f:FuncId}{cap:List Value}{Rl:List ag->Prop}{D:Nat->Prop}(hf:cY aL f=true)(hs:Hx f cap w Rl D)(hD:∀i,D i->i<w.heap.size):
  an OP #[.slice none 0 0,.func (.func f) #[] ⟨cap⟩] w λe w'=>∃l' p c,Rl l'/\e=.returned (.slice p l'.length c)/\aS w' w.heap.size bJ 1 (.slice p l'.length c) l'.length (strs l')/\Still w w':=by
 apply ajh;refine aO λw1 r1 s1 z1=>?_;show aq (cY aL f) _ _
 rw[hf];intro rec hst hpe hy;have k1:Row ((w1.alloc (.deferred (some []))).alloc (.loop rec)) w.heap.size DB ⟨[.slice none 0 0]⟩:=(r1.alloc _).alloc _;have hz:((w1.alloc (.deferred (some []))).alloc (.loop rec)).heap.size=w1.heap.size+2:=by simp
 have s2:Still w ((w1.alloc (.deferred (some []))).alloc (.loop rec)):=(s1.alloc _).alloc _;have hk0:((w1.alloc (.deferred (some []))).alloc (.loop rec)).heap[w1.heap.size+1]?=some (.loop rec):=by have:=heap_alloc_new (w1.alloc (.deferred (some []))) (.loop rec);simpa using this
 have hd0:((w1.alloc (.deferred (some []))).alloc (.loop rec)).heap[w1.heap.size]?=some (.deferred (some [])):=by rw[heap_alloc_old _ _ (by simp)];exact heap_alloc_new w1 _
 generalize(w1.alloc (.deferred (some []))).alloc (.loop rec)=wb at*;have hH:Handler (w1.heap.size+1) w.heap.size (λX d wc=>Still w wc/\wc.heap[w1.heap.size+1]?=some (.loop rec)/\wc.heap[w1.heap.size]?=some (.deferred (some []))/\(∃p c,Row wc w.heap.size DB ⟨[.slice p d.length c]⟩/\aS wc w.heap.size bJ 1 (.slice p d.length c) d.length (strs d)/\(∀r,(Value.slice p d.length c).ownBlock=some r->¬X r/\w1.heap.size+1<r))/\¬X (w1.heap.size+1)/\¬X w1.heap.size/\¬X w.heap.size/\∀i,X i->i<wc.heap.size):=by
  constructor
  .rintro X d x wc hdl ⟨a1,a2,a3,⟨p,c,a4,a5,a6⟩,a7,a8,a9,oV⟩
   refine hy x wc _ a2 ⟨rfl,a2,mg ?_⟩;have mp:=uK wc (w1.heap.size+1) (mL rec);have hb:(wc.putObj (w1.heap.size+1) (mL rec)).heap[w1.heap.size+1]?=some (mL rec):=World.putObj_heap_same (rV a2);have hzz:(wc.putObj (w1.heap.size+1) (mL rec)).heap.size=wc.heap.size:=World.putObj_size ..;generalize wc.putObj (w1.heap.size+1) (mL rec)=wd at*;have b4:=a4.mod mp (λe=>by omega);have b5:=a5.mod mp (λr hr e=>by have:=(a6 r hr).2;omega);have Nt:w.heap.size<=wd.heap.size:=by have:=a1.size;omega
   refine⟨p,d.length,c,b4.ai rfl,aO λw5 r5 s5 z5=>?_⟩;refine rT (B:=w.heap.size) (b5.still s5) (by omega) [.string (S x)] rfl (by simp[Value.oneCell']) (λ_=>⟨_,rfl,λj u hu=>?_⟩) (by omega) (by omega) λp' c' w6 o6 m6 bk=>?_
   .rw[bM,cL]
    exact r5.ai hu
   have UT:∀r,(Value.slice p' (d.length+1) c').ownBlock=some r->(Value.slice p d.length c).ownBlock=some r\/r=w5.heap.size:=λr hr=>by
    rcases bk.own (n:=d.length)with e|e
    .exact .inl (e.symm.trans hr)
    .rw[hr]at e
     exact .inr (bO e)
   have h5k:w1.heap.size+1<w5.heap.size:=by have:=rV hb;omega
   have yg:∀r,(Value.slice p d.length c).ownBlock=some r->¬X r/\w1.heap.size+1<r/\w.heap.size<r:=λr hr=>by have:=a6 r hr;exact⟨this.1,this.2,by omega⟩
   have c4:=(b4.still s5).mod m6 (λe=>by have:=(yg _ e).2.2;omega);refine bF (g:=w.heap.size) (o:=0) c4 λw7 r7 m7 z7=>?_;have m57:Mod (λi=>(Value.slice p d.length c).ownBlock=some i\/i=w.heap.size) w5 w7:=Mod.trans m6 m7 (λ_ h=>.inl h) (λ_ _ h=>.inr h);have m17:Mod (λi=>i=w1.heap.size+1\/(Value.slice p d.length c).ownBlock=some i\/i=w.heap.size) wc w7:=Mod.trans (Mod.trans mp s5 (λ_ h=>.inl h) (λ_ _ h=>h.elim)) m57 (λ_ h=>h) (λ_ _ h=>.inr h);have hb7:w7.heap[w1.heap.size+1]?=some (mL rec):=lS (lS hb s5 (λh=>h)) m57 (λh=>by
    rcases h with h|h
    .have:=(yg _ h).2.1;omega
    .omega)
   have a37:w7.heap[w1.heap.size]?=some (.deferred (some [])):=lS a3 m17 (λh=>by
    rcases h with h|h|h
    .omega
    .have:=(yg _ h).2.1;omega
    .omega)
   refine⟨hb7,rfl,?_,?_⟩
   .have mq:=uK w7 (w1.heap.size+1) (.loop rec)
    have NO:(w7.putObj (w1.heap.size+1) (.loop rec)).heap.size=w7.heap.size:=World.putObj_size ..;have hb8:(w7.putObj (w1.heap.size+1) (.loop rec)).heap[w1.heap.size+1]?=some (.loop rec):=World.putObj_heap_same (rV hb7);generalize w7.putObj (w1.heap.size+1) (.loop rec)=w8 at*;have h68:w6.heap.size=w8.heap.size:=by omega
    have o8:aS w8 w.heap.size bJ 1 (.slice p' (d.length+1) c') (d.length+1) (strs d++[.string (S x)]):=(o6.mod m7 (λr hr e=>by
     rcases UT r hr with h|h
     .have:=(yg _ h).2.2;omega
     .omega)).mod mq (λr hr e=>by
     rcases UT r hr with h|h
     .have:=(yg _ h).2.1;omega
     .omega)
    have hm18:Mod (λi=>i=w1.heap.size+1\/(Value.slice p d.length c).ownBlock=some i\/i=w.heap.size) wc w8:=Mod.trans m17 mq (λ_ h=>h) (λ_ _ h=>.inl h);refine⟨Mod.trans a1 hm18 (λ_ h=>h.elim) (λi hi h=>?_),hb8,lS a37 mq (by omega),⟨p',c',?_,?_,λr hr=>?_⟩,a7,a8,a9,λi hi=>oB (oV i hi) hm18.size⟩
    .rcases h with h|h|h
     .omega
     .have:=(yg _ h).2.2;omega
     .omega
    .rw[aHb]
     exact r7.mod mq (by omega)
    .rw[aHb,KR]
     exact o8
    .rw[aHb]at hr
     rcases UT r hr with h|h
     .exact⟨(yg _ h).1,(yg _ h).2.1⟩
     .refine⟨λhX=>?_,by have:=rV hb;omega⟩
      have:=oV r hX;have:=s5.size;have:=mp.size;omega
   .refine Mod.trans m17 (uK w7 (w1.heap.size+1) (.loop rec)) (λi h hX=>?_) (λi hi h hX=>?_)
    .rcases h with rfl|h|rfl
     .exact a7 hX
     .exact(yg _ h).1 hX
     .exact a9 hX
    .rw[h]at hX
     exact a7 hX
  .rintro X d wc wd ⟨a1,a2,a3,⟨p,c,a4,a5,a6⟩,a7,a8,a9,oV⟩ hm
   exact⟨Mod.trans a1 hm (λ_ h=>h) (λi hi h=>by omega),lS a2 hm (λh=>a7 h.1),lS a3 hm (λh=>a8 h.1),⟨p,c,a4.mod hm (λh=>a9 h.1),a5.mod hm (λr hr h=>(a6 r hr).1 h.1),a6⟩,a7,a8,a9,λi hi=>oB (oV i hi) hm.size⟩
  .rintro X d wc wd ⟨a1,a2,a3,⟨p,c,a4,a5,a6⟩,a7,a8,a9,oV⟩ ms
   have IA:=ms.size;have l1:=rV a2;have l2:=rV a3;have l3:=a4.lt;refine⟨a1.trans ms,lS a2 ms (λh=>h),lS a3 ms (λh=>h),⟨p,c,a4.still ms,a5.still ms,λr hr=>⟨λh=>?_,(a6 r hr).2⟩⟩,λh=>?_,λh=>?_,λh=>?_,λi hi=>?_⟩
   .rcases h with h|h
    .exact(a6 r hr).1 h
    .have:=(a5.lt r hr).2;omega
   .rcases h with h|h
    .exact a7 h
    .omega
   .rcases h with h|h
    .exact a8 h
    .omega
   .rcases h with h|h
    .exact a9 h
    .omega
   .rcases hi with h|h
    .have:=oV i h;omega
    .omega
 refine(hs (w1.heap.size+1) w.heap.size _ D wb hH (by omega) ⟨s2,hk0,hd0,⟨none,0,k1,aS.nil _ _ _ _,λr hr=>by cases hr⟩,λh=>by have:=hD _ h;omega,λh=>by have:=hD _ h;omega,λh=>by have:=hD _ h;omega,λi hi=>by have:=hD i hi;omega⟩ s2 (λ_ h=>h)).mono ?_;rintro _ w3 ⟨rfl,l',X',hp,⟨a1,a2,a3,⟨p,c,a4,a5,a6⟩,a7,a8,a9,oV⟩,_⟩;refine⟨⟨_,rfl⟩,.inl ⟨a2,?_⟩⟩;have mq:=uK w3 (w1.heap.size+1) (.loop {rec with state:=.exhausted});have hzq:(w3.putObj (w1.heap.size+1) (.loop {rec with state:=.exhausted})).heap.size=w3.heap.size:=World.putObj_size ..;generalize w3.putObj (w1.heap.size+1) (.loop {rec with state:=.exhausted})=w4 at*;have b4:=a4.mod mq (λe=>by omega);have b5:=a5.mod mq (λr hr e=>by have:=(a6 r hr).2;omega);have b3:=lS a3 mq (by omega);have s4:Still w w4:=Mod.trans a1 mq (λ_ h=>h.elim) (λi hi e=>by omega);refine⟨p,_,c,b4.ai rfl,mg ⟨b3,l',p,c,hp,rfl,?_,?_⟩⟩
 .refine b5.mod (uK w4 w1.heap.size _) (λr hr e=>by have:=(a6 r hr).2;omega)
 .exact Mod.trans s4 (uK w4 w1.heap.size _) (λ_ h=>h) (λi hi e=>by omega)
end Go.Proofs.YtihaaoehhgmphaaGreatDoor
namespace Go.Proofs.YtihaaoehhgmphaaGreatDoor.L
open IntKind Go.RowKit Vc
def rW:ag->Option ag
 |[]=>none
 |a::r=>if a=39 then some r else rW r
def ku(u:ag->Option ag)(q:ag->Option ag)(ok:Bool)(e:UInt8):Nat->ag->Option ag
 |0,_=>none
 |_+1,[]=>none
 |n+1,c::r=>
  if c=e then some r
  else if e=34/\c=39 then(if ok=true then ku u q ok e n r else none)
  else if e=41/\c=40 then(if ok=true then(match q r with
   |some t=>ku u q ok e n t
   |none=>none)else none)
  else match u (c::r)with
   |some t=>ku u q ok e n t
   |none=>none
def aJJ(v:UInt8->ag->Option ag)(a:UInt8):ag->Option ag
 |b::t=>if a=36/\b=40 then v 41 t else if a=36/\b=123 then v 125 t else some (b::t)
 |[]=>some []
def kC(v:UInt8->ag->Option ag):ag->Option ag
 |[]=>none
 |a::r=>
  if a=92 then(match r with
   |[]=>none
   |_::t=>some t)
  else if a=39 then rW r
  else if a=34 then v 34 r
  else aJJ v a r
def ig:Nat->(ag->Option ag)×(UInt8->ag->Option ag)
 |0=>(λ_=>none,λe s=>ku (λ_=>none) (λ_=>none) false e (s.length+1) s)
 |d+1=>(kC (ig d).2,λe s=>ku (kC (ig d).2) ((ig d).2 41) true e (s.length+1) s)
def fH(d:Nat):ag->Option ag:=(ig d).1
def dV(d:Nat)(e:UInt8):ag->Option ag:=(ig d).2 e
def F0:∀{s t:ag},rW s=some t->t.length<s.length
 |a::r,t,h=>by
  simp only[rW]at h;split at h
  .obtain rfl:=bO h;simp
  .have:=F0 h;simp;omega
def aIm(f:ag->Option ag):Prop:=∀s t,f s=some t->t.length<s.length
def F9{u q:ag->Option ag}{ok:Bool}{e:UInt8}(hu:aIm u)(hq:aIm q):∀n,aIm (ku u q ok e n)
 |0=>λs t h=>by cases h
 |n+1=>by
  intro s t h;cases s with
  |nil=>cases h
  |cons c r=>
   simp only[ku]at h;split at h
   .obtain rfl:=bO h;simp
   .split at h
    .split at h
     .have:=F9 hu hq n _ _ h;simp;omega
     .cases h
    .split at h
     .split at h
      .split at h
       .rename_i t' ht
        have h1:=hq _ _ ht;have h2:=F9 hu hq n _ _ h;simp;omega
       .cases h
      .cases h
     .split at h
      .rename_i t' ht
       have h1:=hu _ _ ht;have h2:=F9 hu hq n _ _ h;omega
      .cases h
def RI{v:UInt8->ag->Option ag}(hv:∀e,aIm (v e)):aIm (kC v):=by
 intro s t h;cases s with
 |nil=>cases h
 |cons a r=>
  simp only[kC]at h;split at h
  .cases r with
   |nil=>cases h
   |cons b r=>obtain rfl:=bO h;simp;omega
  .split at h
   .have:=F0 h;simp;omega
   .split at h
    .have:=hv _ _ _ h;simp;omega
    .cases r with
     |nil=>obtain rfl:=bO h;simp
     |cons b r=>
      simp only[aJJ]at h;split at h
      .have:=hv _ _ _ h;simp;omega
      .split at h
       .have:=hv _ _ _ h;simp;omega
       .obtain rfl:=bO h;simp
def Gs:∀d,aIm (ig d).1/\∀e,aIm ((ig d).2 e)
 |0=>by refine⟨λs t h=>(by cases h),λe s t h=>?_⟩;exact F9 (λs t h=>by cases h) (λs t h=>by cases h) _ _ _ h
 |d+1=>by have ih:=Gs d;have hu:aIm (kC (ig d).2):=RI ih.2;exact⟨hu,λe s t h=>F9 hu (ih.2 41) _ _ _ h⟩
def KT{u q:ag->Option ag}{ok:Bool}{e:UInt8}(hu:aIm u)(hq:aIm q):∀(n m:Nat) (s:ag),s.length<n->s.length<m->ku u q ok e n s=ku u q ok e m s
 |0,_,_,h,_=>by omega
 |_,0,_,_,h=>by omega
 |n+1,m+1,[],_,_=>rfl
 |n+1,m+1,c::r,hn,hm=>by
  simp only[a_]at hn hm;simp only[ku];rw[KT hu hq n m r (by omega) (by omega)];have e1:(match q r with|some t=>ku u q ok e n t|none=>none)=(match q r with|some t=>ku u q ok e m t|none=>none):=by
   cases V4:q r with
   |none=>rfl
   |some t=>have:=hq _ _ V4;exact KT hu hq n m t (by omega) (by omega)
  have e2:(match u (c::r)with|some t=>ku u q ok e n t|none=>none)=(match u (c::r)with|some t=>ku u q ok e m t|none=>none):=by
   cases V5:u (c::r)with
   |none=>rfl
   |some t=>have:=hu _ _ V5;simp only[a_]at this;exact KT hu hq n m t (by omega) (by omega)
  rw[e1,e2]
def s_(d:Nat):aIm (fH d):=(Gs d).1
def aI0(d:Nat)(e:UInt8):aIm (dV d e):=(Gs d).2 e
def aaC(s:ag):fH 0 s=none:=rfl
def aqC(d:Nat)(e:UInt8):dV d e []=none:=by cases d<;>rfl
def ZZ(d:Nat)(e c:UInt8)(r:ag):dV d e (c::r)=
  if c=e then some r
  else if e=34/\c=39 then(if d=0 then none else dV d e r)
  else if e=41/\c=40 then(if d=0 then none else(dV (d-1) 41 r).bind (dV d e))
  else(fH d (c::r)).bind (dV d e):=by
 cases d with
 |zero=>show ku (λ_=>none) (λ_=>none) false e (r.length+1+1) (c::r)=_;simp only[ku,l9,jq,pq,aaC,Option.bind_none]
 |succ d=>
  have hu:=RI (Gs d).2;have hq:=(Gs d).2 41;show ku (kC (ig d).2) ((ig d).2 41) true e (r.length+1+1) (c::r)=_
  have next:∀t:ag,t.length<r.length+1->ku (kC (ig d).2) ((ig d).2 41) true e (r.length+1) t=dV (d+1) e t:=λt ht=>KT hu hq _ _ _ ht (lB _);simp only[ku,pq,Nat.succ_ne_zero,jq,P3];rw[next r (lB _)];have e1:(match(ig d).2 41 r with|some t=>ku (kC (ig d).2) ((ig d).2 41) true e (r.length+1) t|none=>none)=(dV d 41 r).bind (dV (d+1) e):=by
   show(match dV d 41 r with|some t=>ku (kC (ig d).2) ((ig d).2 41) true e (r.length+1) t|none=>none)=_;cases V4:dV d 41 r with
   |none=>rfl
   |some t=>have:=aI0 d 41 _ _ V4;exact next t (by omega)
  have e2:(match kC (ig d).2 (c::r)with|some t=>ku (kC (ig d).2) ((ig d).2 41) true e (r.length+1) t|none=>none)=(fH (d+1) (c::r)).bind (dV (d+1) e):=by
   show(match fH (d+1) (c::r)with|some t=>ku (kC (ig d).2) ((ig d).2 41) true e (r.length+1) t|none=>none)=_;cases V5:fH (d+1) (c::r)with
   |none=>rfl
   |some t=>have:=s_ (d+1) _ _ V5;simp only[a_]at this;exact next t (by omega)
  rw[e1,e2]
def Ends(f:ag->Option ag):Prop:=∀s t,f s=some t->t<:+s
def vO{a:UInt8}{t r:ag}(h:t<:+r):t<:+a::r:=h.trans (pe a r)
def Zj:Ends rW
 |a::r,t,h=>by
  simp only[rW]at h;split at h
  .obtain rfl:=bO h;exact pe _ _
  .exact vO (Zj r t h)
def Ge{u q:ag->Option ag}{ok:Bool}{e:UInt8}(hu:Ends u)(hq:Ends q):∀n,Ends (ku u q ok e n)
 |0=>λs t h=>by cases h
 |n+1=>by
  intro s t h;cases s with
  |nil=>cases h
  |cons c r=>
   simp only[ku]at h;split at h
   .obtain rfl:=bO h;exact pe _ _
   .split at h
    .split at h
     .exact vO (Ge hu hq n _ _ h)
     .cases h
    .split at h
     .split at h
      .split at h
       .rename_i t' ht
        exact vO ((Ge hu hq n _ _ h).trans (hq _ _ ht))
       .cases h
      .cases h
     .split at h
      .rename_i t' ht
       exact(Ge hu hq n _ _ h).trans (hu _ _ ht)
      .cases h
def aqD{v:UInt8->ag->Option ag}(hv:∀e,Ends (v e)):Ends (kC v):=by
 intro s t h;cases s with
 |nil=>cases h
 |cons a r=>
  simp only[kC]at h;split at h
  .cases r with
   |nil=>cases h
   |cons b r=>obtain rfl:=bO h;exact vO (pe _ _)
  .split at h
   .exact vO (Zj _ _ h)
   .split at h
    .exact vO (hv _ _ _ h)
    .cases r with
     |nil=>obtain rfl:=bO h;exact pe _ _
     |cons b r=>
      simp only[aJJ]at h;split at h
      .exact vO (vO (hv _ _ _ h))
      .split at h
       .exact vO (vO (hv _ _ _ h))
       .obtain rfl:=bO h;exact pe _ _
def SR:∀d,Ends (ig d).1/\∀e,Ends ((ig d).2 e)
 |0=>⟨λs t h=>(by cases h),λe s t h=>Ge (λs t h=>by cases h) (λs t h=>by cases h) _ _ _ h⟩
 |d+1=>by have ih:=SR d;have hu:Ends (kC (ig d).2):=aqD ih.2;exact⟨hu,λe s t h=>Ge hu (ih.2 41) _ _ _ h⟩
def R1(d:Nat):Ends (fH d):=(SR d).1
def Z0(d:Nat)(e:UInt8):Ends (dV d e):=(SR d).2 e
def ix(s:ag):Option ag->Int
 |some t=>((s.length-t.length:Nat):Int)
 |none=>-1
def pf(t q:ag):Bool:=decide (t.length<=q.length/\q.take t.length=t)
end Go.Proofs.YtihaaoehhgmphaaGreatDoor.L
namespace Go.Proofs.YtihaaoehhgmphaaGreatDoor.L
open IntKind
inductive Pt where
 |mk(k:Int)(q:Bool)(t n o:ag)(w:List Pt)
namespace Pt
def k:Pt->Int
 |.mk k _ _ _ _ _=>k
def q:Pt->Bool
 |.mk _ q _ _ _ _=>q
def t:Pt->ag
 |.mk _ _ t _ _ _=>t
def n:Pt->ag
 |.mk _ _ _ n _ _=>n
def o:Pt->ag
 |.mk _ _ _ _ o _=>o
def w:Pt->List Pt
 |.mk _ _ _ _ _ w=>w
end Pt
inductive Rs(α:Type)where
 |ok(a:α):Rs α
 |bad (e:Nat):Rs α
def Rs.and{α β:Type}(r:Rs α)(f:α->Rs β):Rs β:=match r with
 |.ok a=>f a
 |.bad e=>.bad e
def Rs.fh{α β:Type}{r:Rs α}{f:α->Rs β}{b:β}(h:r.and f=.ok b):∃a,r=.ok a/\f a=.ok b:=by
 cases r with
 |bad k=>cases h
 |ok a=>exact⟨a,rfl,h⟩
def isLet(c:UInt8):Bool:=(decide (97<=c)&&decide (c<=122))||(decide (65<=c)&&decide (c<=90))||c==95
def aIA(c:UInt8):Bool:=decide (48<=c)&&decide (c<=57)
def Us(c:UInt8):Bool:=isLet c||aIA c
def Ua(c:UInt8):Bool:=aIA c||c==35||c==63||c==64||c==42
def bT:ag->Nat
 |[]=>0
 |c::r=>if isLet c=true then(r.takeWhile Us).length+1 else 0
def nW:ag->Nat
 |[]=>0
 |c::_=>if Ua c=true then 1 else 0
def f_(l:List Pt)(p:Pt):List Pt:=match l.getLast? with
 |some x=>if p.k=0/\x.k=0/\x.q=p.q then l.dropLast++[.mk x.k x.q (x.t++p.t) x.n x.o x.w]else l++[p]
 |none=>l++[p]
def GU(_:ag->Rs (List Pt))(_:Bool)(_:ag):Rs Pt:=.bad 90
def aHW(P:ag->Rs (List Pt))(q:Bool)(s:ag):Rs (Pt×Nat):=
 if(s.drop 1).head?=some 40\/(s.drop 1).head?=some 123 then match fH 30 s with
  |none=>.bad 90
  |some t=>
   if(s.drop 1).head?=some 123 then(GU P q ((s.drop 2).take (s.length-t.length-3))).and λp=>.ok (p,s.length-t.length)
   else if 4<s.length-t.length/\s[2]?=some 40/\s[s.length-t.length-2]?=some 41 then .ok (.mk 3 q ((s.drop 3).take (s.length-t.length-5)) [] [] [],s.length-t.length)
   else .ok (.mk 2 q ((s.drop 2).take (s.length-t.length-3)) [] [] [],s.length-t.length)
 else if 0<bT (s.drop 1)then .ok (.mk 1 q [] ((s.drop 1).take (bT (s.drop 1))) [] [],bT (s.drop 1)+1)
 else if 0<nW (s.drop 1)then .ok (.mk 1 q [] ((s.drop 1).take 1) [] [],2)
 else .ok (.mk 0 q [36] [] [] [],1)
def tx(q:Bool)(t:ag):Pt:=.mk 0 q t [] [] []
def nT(P:ag->Rs (List Pt))(s:ag):Rs (List Pt×Nat):=match s with
 |[]=>.bad 0
 |c::r=>
  if c=36 then(aHW P true (c::r)).and λx=>.ok ([x.1],x.2)
  else if c=92/\(r.head?=some 36\/r.head?=some 96\/r.head?=some 34\/r.head?=some 92)then .ok ([tx true (r.take 1)],2)
  else .ok ([tx true [c]],1)
def gH(one:ag->Rs (List Pt×Nat)):Nat->List Pt->ag->Rs (List Pt)
 |0,_,_=>.bad 0
 |_+1,acc,[]=>.ok acc
 |n+1,acc,c::r=>(one (c::r)).and λx=>gH one n (x.1.foldl f_ acc) ((c::r).drop x.2)
def qt(P:ag->Rs (List Pt))(s:ag):Rs (List Pt):=if s=[]then .ok [tx true []]else gH (nT P) (s.length+1) [] s
def aIE(P:ag->Rs (List Pt))(s:ag):Rs (List Pt×Nat):=match s with
 |[]=>.bad 0
 |c::r=>
  if c=36 then(aHW P false (c::r)).and λx=>.ok ([x.1],x.2)
  else if c=92\/c=39\/c=34 then match fH 30 (c::r)with
   |none=>.bad 90
   |some t=>
    if c=92 then .ok ([tx true (r.take 1)],2)
    else if c=34 then(qt P (r.take (r.length-t.length-1))).and λl=>.ok (l,r.length+1-t.length)
    else .ok ([tx true (r.take (r.length-t.length-1))],r.length+1-t.length)
  else .ok ([tx false [c]],1)
def aHz:Nat->ag->Rs (List Pt)
 |0,_=>.bad 2
 |L+1,s=>gH (aIE (aHz L)) (s.length+1) [] s
abbrev agl:ag:=[108,101,110]
def single(s:ag):ag:=39::(s.flatMap λb=>if b=39 then[39,92,39,39]else[b])++[39]
def Eb(q:Bool)(s:ag):ag:=if q=true then 34::s++[34]else s
mutual
def Pt.pr:Pt->ag
 |.mk k q t n o w=>
  if k=0 then(if q=true then single t else t)
  else Eb q (if k=2 then[36,40]++t++[41]else if k=3 then[36,40,40]++t++[41,41]else if k=1 then(if o=agl then[36,123,35]++n++[125]else[36,123]++n++o++gA w++[125])else[])
def gA:List Pt->ag
 |[]=>[]
 |p::r=>p.pr++gA r
end
def aaD:∀a b:List Pt,gA (a++b)=gA a++gA b
 |[],_=>rfl
 |p::a,b=>by simp only[qP,gA,aaD a b,j9]
def vP:∀s:ag,bT s<=s.length
 |[]=>aR _
 |c::r=>by
  have:(r.takeWhile Us).length<=r.length:=(List.takeWhile_sublist _).length_le;simp only[bT];split
  .simp only[a_];omega
  .exact dU _
def SS:∀s:ag,nW s<=s.length
 |[]=>aR _
 |c::r=>by simp only[nW,a_];split<;>omega
def abE(s:ag):nW s<=1:=by
 cases s with
 |nil=>exact dU _
 |cons c r=>simp only[nW];split<;>omega
def auX(l:List Pt)(p:Pt):(f_ l p).length<=l.length+1:=by
 unfold f_;split
 .rename_i x hx
  have hne:l≠[]:=by rintro rfl;cases hx
  have:=nj.2 hne;split
  .simp only[aHb,List.length_dropLast,a_,cq];omega
  .simp
 .simp
def acI:∀(ps acc:List Pt),(ps.foldl f_ acc).length<=acc.length+ps.length
 |[],acc=>aR _
 |p::ps,acc=>by have h1:=acI ps (f_ acc p);have h2:=auX acc p;simp only[aJ4,a_];omega
def Ah(one:ag->Rs (List Pt×Nat)):Prop:=∀s x,one s=.ok x->0<x.2/\x.2<=s.length/\x.1.length<=x.2
def Zk{P:ag->Rs (List Pt)}{q:Bool}{r:ag}{x:Pt×Nat}(h:aHW P q (36::r)=.ok x):0<x.2/\x.2<=r.length+1:=by
 unfold aHW at h;simp only[aJY,FQ]at h;split at h
 .split at h
  .cases h
  .rename_i t ht
   have h1:=s_ 30 _ _ ht;simp only[a_]at h1 h;split at h
   .obtain⟨p,_,h⟩:=Rs.fh h
    injection h with h;rw[<-h];dsimp only;omega
   .split at h<;>(injection h with h;rw[<-h];dsimp only;omega)
 .split at h
  .injection h with h
   have:=vP r;rw[<-h];dsimp only;omega
  .split at h
   .rename_i hs
    injection h with h;have:=SS r;rw[<-h];dsimp only;omega
   .injection h with h
    rw[<-h];dsimp only;omega
def F_(P:ag->Rs (List Pt)):Ah (nT P):=by
 intro s x h;cases s with
 |nil=>cases h
 |cons c r=>
  simp only[nT]at h;split at h
  .rename_i hc
   subst hc;obtain⟨y,h1,h⟩:=Rs.fh h;injection h with h;have:=Zk h1;rw[<-h];exact⟨this.1,this.2,this.1⟩
  .split at h
   .rename_i hc
    injection h with h;rw[<-h];have:r≠[]:=by rintro rfl;rcases hc.2 with h|h|h|h<;>cases h
    have:=nj.2 this;simp only[a_,cq];omega
   .injection h with h
    rw[<-h];simp only[a_,cq];omega
def abF{one:ag->Rs (List Pt×Nat)}(ho:Ah one):∀(n:Nat) (acc:List Pt) (s:ag) (l:List Pt),gH one n acc s=.ok l->l.length<=acc.length+s.length
 |0,_,_,_,h=>by cases h
 |n+1,acc,[],l,h=>by injection h with h;rw[h];exact FJ _ _
 |n+1,acc,c::r,l,h=>by simp only[gH]at h;obtain⟨x,h1,h⟩:=Rs.fh h;have h2:=ho _ _ h1;have h3:=abF ho n _ _ _ h;have h4:=acI x.1 acc;rw[j_]at h3;omega
def aaE{one:ag->Rs (List Pt×Nat)}(ho:Ah one):∀(n m:Nat) (acc:List Pt) (s:ag),s.length<n->s.length<m->gH one n acc s=gH one m acc s
 |0,_,_,_,h,_=>by omega
 |_,0,_,_,_,h=>by omega
 |n+1,m+1,acc,[],_,_=>rfl
 |n+1,m+1,acc,c::r,h1,h2=>by
  simp only[gH];cases h:one (c::r)with
  |bad e=>rfl
  |ok x=>have h3:=ho _ _ h;simp only[a_]at h1 h2 h3;exact aaE ho n m _ _ (by rw[j_,a_];omega) (by rw[j_,a_];omega)
def auY{P:ag->Rs (List Pt)}{s:ag}{l:List Pt}(h:qt P s=.ok l):l.length<=s.length+1:=by
 unfold qt at h;split at h
 .injection h with h
  rw[<-h];simp
 .have:=abF (F_ P) _ _ _ _ h
  simp only[cq]at this;omega
def Rx(P:ag->Rs (List Pt)):Ah (aIE P):=by
 intro s x h;cases s with
 |nil=>cases h
 |cons c r=>
  simp only[aIE]at h;split at h
  .rename_i hc
   subst hc;obtain⟨y,h1,h⟩:=Rs.fh h;injection h with h;have:=Zk h1;rw[<-h];exact⟨this.1,this.2,this.1⟩
  .split at h
   .split at h
    .cases h
    .rename_i hc t ht
     have h1:=s_ 30 _ _ ht;simp only[a_]at h1;split at h
     .rename_i kG
      subst kG;injection h with h;rw[<-h];have:r≠[]:=by rintro rfl;rw[show fH 30 [92]=none from rfl]at ht;cases ht
      have:=nj.2 this;simp only[a_,cq];omega
     .have hq:∀u,c=39\/c=34->fH 30 (c::r)=some u->u.length+1<=r.length:=by
       intro u hc hu;rcases hc with rfl|rfl
       .have:rW r=some u:=hu
        have:=F0 this;omega
       .have:dV 29 34 r=some u:=hu
        have:=aI0 29 34 _ _ this;omega
      rename_i kG;have h2:=hq t (Or.resolve_left (by assumption) kG) ht;split at h
      .obtain⟨l,h3,h⟩:=Rs.fh h
       injection h with h;have h4:=auY h3;rw[eZ]at h4;rw[<-h];simp only[a_];omega
      .injection h with h
       rw[<-h];simp only[a_,cq];omega
   .injection h with h
    rw[<-h];simp only[a_,cq];omega
end Go.Proofs.YtihaaoehhgmphaaGreatDoor.L
namespace Go.Proofs.YtihaaoehhgmphaaGreatDoor
open IntKind Go.RowKit Vc
variable{w:World}
def DK(a:Addr)(i:Nat):(a.add i).block=a.block:=by unfold Addr.add;split<;>rfl
def vQ{S:Nat->Prop}{w':World}(hm:Mod S w w'){a:Addr}{v:Value}(hn:¬S a.block)(h:w.cell? a=some v):w'.cell? a=some v:=
 (World.cell?_of_block (hm.block _ (World.block_lt_of_cell? _ _ h) hn)).trans h
def aS.cap{B:Nat}{e:TypeId}{size n:Nat}{v:Value}{xs:List Value}(h:aS w B e size v n xs):∃p c,v=.slice p n c/\n<=c:=by
 rcases h.2 with⟨rfl,rfl⟩|⟨g,cap,cur,rfl,_,_,hc,_⟩
 .exact⟨_,_,rfl,aR _⟩
 .exact⟨_,_,rfl,hc⟩
end Go.Proofs.YtihaaoehhgmphaaGreatDoor
namespace Go.Proofs.YtihaaoehhgmphaaGreatDoor.L
open IntKind Go.RowKit Vc
variable{w:World}
def hU(p:Pt)(v:Value):List Value:=[.int .i64 p.k,.bool p.q,.string (S p.t),.string (S p.n),.string (S p.o),v]
mutual
def oQ(w:World)(F:Nat->Prop):Pt->Addr->Prop
 |.mk k q t n o l,a=>∃p c,(∀(j:Nat) (u:Value),(hU (.mk k q t n o l) (.slice p l.length c))[j]?=some u->w.cell? (a.add j)=some u)/\l.length<=c/\(l≠[]->∃b,p=some b/\F b.block/\h_ w F l b)
def h_(w:World)(F:Nat->Prop):List Pt->Addr->Prop
 |[],_=>True
 |x::r,a=>oQ w F x a/\h_ w F r (a.add 6)
end
def aHg(w:World)(F:Nat->Prop)(l:List Pt)(v:Value):Prop:=∃p c,v=.slice p l.length c/\l.length<=c/\(l≠[]->∃b,p=some b/\F b.block/\h_ w F l b)
def oQ.out{F:Nat->Prop}{x:Pt}{a:Addr}(h:oQ w F x a):∃v,(∀(j:Nat) (u:Value),(hU x v)[j]?=some u->w.cell? (a.add j)=some u)/\aHg w F x.w v:=by
 cases x with
 |mk k q t n o l=>simp only[oQ]at h;obtain⟨p,c,h1,h2,h3⟩:=h;exact⟨_,h1,p,c,rfl,h2,h3⟩
def oQ.of{F:Nat->Prop}{x:Pt}{a:Addr}{v:Value}(h:∀(j:Nat) (u:Value),(hU x v)[j]?=some u->w.cell? (a.add j)=some u)(hs:aHg w F x.w v):oQ w F x a:=by
 cases x with
 |mk k q t n o l=>obtain⟨p,c,rfl,h2,h3⟩:=hs;simp only[oQ];exact⟨p,c,h,h2,h3⟩
def h_.get{F:Nat->Prop}:∀{l:List Pt} {a:Addr} {i:Nat} {x:Pt},h_ w F l a->l[i]?=some x->oQ w F x (a.add (i*6))
 |y::r,a,0,x,h,hx=>by
  obtain rfl:=bO hx;simp only[h_]at h;have e:a.add (0*6)=a:=by unfold Addr.add;simp
  rw[e];exact h.1
 |y::r,a,i+1,x,h,hx=>by simp only[h_]at h;have:=h_.get (i:=i) h.2 (by simpa using hx);rw[sx]at this;rwa[show(i+1)*6=6+i*6 by omega]
def h_.of{F:Nat->Prop}:∀{l:List Pt} {a:Addr},(∀i x,l[i]?=some x->oQ w F x (a.add (i*6)))->h_ w F l a
 |[],a,h=>by simp only[h_]
 |y::r,a,h=>by
  simp only[h_];refine⟨?_,h_.of λi x hx=>?_⟩
  .have:=h 0 y rfl
   have e:a.add (0*6)=a:=by unfold Addr.add;simp
   rwa[e]at this
  .rw[sx]
   have:=h (i+1) x (by simpa using hx);rwa[show(i+1)*6=6+i*6 by omega]at this
mutual
def oQ.dO{F G:Nat->Prop}{w':World}(hF:∀k,F k->G k)(hw:∀a v,(∃k,F k/\a.block=k)->w.cell? a=some v->w'.cell? a=some v):∀{x:Pt} {a:Addr},oQ w F x a->F a.block->oQ w' G x a
 |.mk k q t n o l,a,h,hb=>by simp only[oQ]at h⊢;obtain⟨p,c,h1,h2,h3⟩:=h;refine⟨p,c,λj u hu=>hw _ _ ⟨_,hb,DK a j⟩ (h1 j u hu),h2,λhl=>?_⟩;obtain⟨b,rfl,h4,h5⟩:=h3 hl;exact⟨b,rfl,hF _ h4,h_.dO hF hw h5 h4⟩
def h_.dO{F G:Nat->Prop}{w':World}(hF:∀k,F k->G k)(hw:∀a v,(∃k,F k/\a.block=k)->w.cell? a=some v->w'.cell? a=some v):∀{l:List Pt} {a:Addr},h_ w F l a->F a.block->h_ w' G l a
 |[],a,h,hb=>by simp only[h_]
 |x::r,a,h,hb=>by simp only[h_]at h⊢;exact⟨oQ.dO hF hw h.1 hb,h_.dO hF hw h.2 (by rw[DK];exact hb)⟩
end
def aHg.dO{F G:Nat->Prop}{w':World}(hF:∀k,F k->G k)(hw:∀a v,(∃k,F k/\a.block=k)->w.cell? a=some v->w'.cell? a=some v){l:List Pt}{v:Value}(h:aHg w F l v):aHg w' G l v:=by obtain⟨p,c,rfl,h2,h3⟩:=h;refine⟨p,c,rfl,h2,λhl=>?_⟩;obtain⟨b,rfl,h4,h5⟩:=h3 hl;exact⟨b,rfl,hF _ h4,h_.dO hF hw h5 h4⟩
def aHg.mono{F G:Nat->Prop}(hF:∀k,F k->G k){l:List Pt}{v:Value}(h:aHg w F l v):aHg w G l v:=h.dO hF (λ_ _ _ h=>h)
def aHg.any{F:Nat->Prop}{l:List Pt}{v:Value}(h:aHg w F l v):aHg w (λ_=>True) l v:=h.mono λ_ _=>trivial
def aHg.mod{F S:Nat->Prop}{w':World}{l:List Pt}{v:Value}(h:aHg w F l v)(hm:Mod S w w')(hS:∀k,F k->¬S k):aHg w' F l v:=
 h.dO (λ_ h=>h) λa v ⟨k,hk,e⟩ hc=>vQ hm (by rw[e];exact hS k hk) hc
def aHg.still{F:Nat->Prop}{w':World}{l:List Pt}{v:Value}(h:aHg w F l v)(hm:Still w w'):aHg w' F l v:=h.mod hm λ_ _ h=>h
def aHg.nil(w:World)(F:Nat->Prop)(p:Option Addr)(c:Nat):aHg w F [] (.slice p 0 c):=⟨p,c,rfl,dU _,λh=>absurd rfl h⟩
def aHg.here{F:Nat->Prop}{l:List Pt}{v:Value}(h:aHg w F l v):aHg w (λk=>F k/\k<w.heap.size) l v:=by
 have key:∀n,∀l:List Pt,SizeOf.sizeOf l<n->∀b,h_ w F l b->F b.block->l≠[]->(b.block<w.heap.size/\h_ w (λk=>F k/\k<w.heap.size) l b):=by
  intro n
  induction n with
  |zero=>intro l h;omega
  |succ n ih=>
   intro l hl b hp hb hne;have cell0:b.block<w.heap.size:=by obtain⟨x,r,rfl⟩:=aJl hne;simp only[h_]at hp;obtain⟨v,hc,_⟩:=hp.1.out;have:=World.block_lt_of_cell? _ _ (hc 0 _ rfl);rwa[DK]at this
   refine⟨cell0,h_.of λi x hx=>?_⟩;obtain⟨v,hc,hs⟩:=(hp.get hx).out;refine oQ.of hc ?_;obtain⟨p,c,rfl,h2,h3⟩:=hs;refine⟨p,c,rfl,h2,λaH5=>?_⟩;obtain⟨b2,rfl,h4,h5⟩:=h3 aH5;have hm:=XU (uf hx);have hx2:SizeOf.sizeOf x.w<SizeOf.sizeOf x:=by cases x;simp only[Pt.w,Pt.mk.sizeOf_spec];omega
   have:=ih x.w (by omega) b2 h5 h4 aH5;exact⟨b2,rfl,⟨h4,this.1⟩,this.2⟩
 obtain⟨p,c,rfl,h2,h3⟩:=h;refine⟨p,c,rfl,h2,λhl=>?_⟩;obtain⟨b,rfl,h4,h5⟩:=h3 hl;have:=key _ l (lB _) b h5 h4 hl;exact⟨b,rfl,⟨h4,this.1⟩,this.2⟩
def aHg.get{F:Nat->Prop}{l:List Pt}{p:Option Addr}{n c:Nat}(h:aHg w F l (.slice p n c)){i:Nat}{x:Pt}(hx:l[i]?=some x):
  ∃b v,p=some b/\F b.block/\(∀(j:Nat) (u:Value),(hU x v)[j]?=some u->w.cell? ((b.add (i*6)).add j)=some u)/\aHg w F x.w v:=by
 obtain⟨p',c',he,h2,h3⟩:=h;injection he with e1 e2 e3;subst e1 e2 e3;have hl:l≠[]:=by rintro rfl;cases hx
 obtain⟨b,rfl,h4,h5⟩:=h3 hl;obtain⟨v,h6,h7⟩:=(h5.get hx).out;exact⟨b,v,rfl,h4,h6,h7⟩
def aHg.len{F:Nat->Prop}{l:List Pt}{p:Option Addr}{n c:Nat}(h:aHg w F l (.slice p n c)):n=l.length/\l.length<=c:=by obtain⟨p',c',he,h2,h3⟩:=h;injection he with e1 e2 e3;subst e3;exact⟨e2,h2⟩
def aHg.form{F:Nat->Prop}{l:List Pt}{v:Value}(h:aHg w F l v):∃p c,v=.slice p l.length c:=by obtain⟨p,c,he,_⟩:=h;exact⟨p,c,he⟩
def Cs(w:World)(F:Nat->Prop):List Pt->List Value->Prop
 |[],xs=>xs=[]
 |x::r,xs=>∃v ys,xs=hU x v++ys/\aHg w F x.w v/\Cs w F r ys
def Cs.len{F:Nat->Prop}:∀{l:List Pt} {xs:List Value},Cs w F l xs->xs.length=l.length*6
 |[],xs,h=>by rw[show xs=[]from h];rfl
 |x::r,xs,⟨v,ys,h1,h2,h3⟩=>by have:=h3.len;rw[h1];simp only[aHb,hU,a_,cq,this];omega
def abG{x:Pt}{v:Value}(hv:v.oneCell'=true):∀u∈hU x v,u.oneCell'=true:=by intro u hu;simp only[hU,gE,ug,uh]at hu;rcases hu with rfl|rfl|rfl|rfl|rfl|rfl<;>first|rfl|exact hv
def aHg.one{F:Nat->Prop}{l:List Pt}{v:Value}(h:aHg w F l v):v.oneCell'=true:=by obtain⟨p,c,rfl,_⟩:=h;rfl
def Cs.one{F:Nat->Prop}:∀{l:List Pt} {xs:List Value},Cs w F l xs->∀u∈xs,u.oneCell'=true
 |[],xs,h=>by rw[show xs=[]from h];simp
 |x::r,xs,⟨v,ys,h1,h2,h3⟩=>by
  intro u hu;rw[h1]at hu;rcases mE.1 hu with hu|hu
  .exact abG h2.one u hu
  .exact h3.one u hu
def Cs.dO{F G:Nat->Prop}{w':World}(hf:∀{l:List Pt} {v:Value},aHg w F l v->aHg w' G l v):∀{l:List Pt} {xs:List Value},Cs w F l xs->Cs w' G l xs
 |[],xs,h=>h
 |x::r,xs,⟨v,ys,h1,h2,h3⟩=>⟨v,ys,h1,hf h2,h3.dO hf⟩
def Cs.append{F:Nat->Prop}:∀{l m:List Pt} {xs ys:List Value},Cs w F l xs->Cs w F m ys->Cs w F (l++m) (xs++ys)
 |[],m,xs,ys,h,k=>by rw[show xs=[]from h];exact k
 |x::r,m,xs,ys,⟨v,zs,h1,h2,h3⟩,k=>⟨v,zs++ys,by rw[h1,j9],h2,h3.append k⟩
def Cs.snoc{F:Nat->Prop}{l:List Pt}{xs:List Value}{x:Pt}{v:Value}(h:Cs w F l xs)(hv:aHg w F x.w v):Cs w F (l++[x]) (xs++hU x v):=
 h.append ⟨v,[],by simp,hv,rfl⟩
def Cs.split{F:Nat->Prop}:∀{l m:List Pt} {xs:List Value},Cs w F (l++m) xs->∃ys zs,xs=ys++zs/\Cs w F l ys/\Cs w F m zs
 |[],m,xs,h=>⟨[],xs,rfl,rfl,h⟩
 |x::r,m,xs,h=>by obtain⟨v,us,h1,h2,h3⟩:∃v us,xs=hU x v++us/\aHg w F x.w v/\Cs w F (r++m) us:=h;obtain⟨ys,zs,h4,h5,h6⟩:=h3.split;exact⟨hU x v++ys,zs,by rw[h1,h4,j9],⟨v,ys,rfl,h2,h5⟩,h6⟩
def Cs.last{F:Nat->Prop}{l:List Pt}{x:Pt}{xs:List Value}(h:Cs w F (l++[x]) xs):∃ys v,xs=ys++hU x v/\Cs w F l ys/\aHg w F x.w v:=by obtain⟨ys,zs,h1,h2,v,us,h3,h4,h5⟩:=h.split;have h5:us=[]:=h5;subst h5;exact⟨ys,v,by rw[h1,h3,aIk],h2,h4⟩
def Cs.at{F:Nat->Prop}:∀{l:List Pt} {xs:List Value} {a:Addr},Cs w F l xs->(∀(j:Nat) (u:Value),xs[j]?=some u->w.cell? (a.add j)=some u)->h_ w F l a
 |[],xs,a,h,hc=>by simp only[h_]
 |x::r,xs,a,⟨v,ys,h1,h2,h3⟩,hc=>by
  simp only[h_];have e:(hU x v).length=6:=rfl;refine⟨oQ.of (λj u hu=>hc j u ?_) h2,h3.at λj u hu=>?_⟩
  .rw[h1,wX]
   .exact hu
   .exact(iw.1 hu).1
  .rw[sx]
   refine hc _ u ?_;rw[h1,zx (by rw[e];omega),e,Bk];exact hu
def Cs.to{F:Nat->Prop}{l:List Pt}:∀{a:Addr},h_ w F l a->∃xs,Cs w F l xs/\∀(j:Nat) (u:Value),xs[j]?=some u->w.cell? (a.add j)=some u:=by
 induction l with
 |nil=>intro a _;exact⟨[],rfl,λj u hu=>by simp at hu⟩
 |cons x r ih=>
  intro a h;simp only[h_]at h;obtain⟨v,h1,h2⟩:=h.1.out;obtain⟨xs,h3,h4⟩:=ih h.2;refine⟨hU x v++xs,⟨v,xs,rfl,h2,h3⟩,λj u hu=>?_⟩;have e:(hU x v).length=6:=rfl
  by_cases hj:j<6
  .rw[wX (by rw[e];exact hj)]at hu
   exact h1 j u hu
  .rw[zx (by rw[e];omega),e]at hu
   have:=h4 _ u hu;rwa[sx,show 6+(j-6)=j by omega]at this
def iR(w:World)(B:Nat)(l:List Pt)(v:Value):Prop:=∃p c xs,v=.slice p l.length c/\aS w B 51 6 v l.length xs/\Cs w (λk=>B<=k/\k<w.heap.size/\v.ownBlock≠some k) l xs
def iR.nil(w:World)(B:Nat):iR w B [] (.slice none 0 0):=⟨none,0,[],rfl,aS.nil _ _ _ _,rfl⟩
def iR.sl{B:Nat}{l:List Pt}{v:Value}(h:iR w B l v):aHg w (λk=>B<=k/\k<w.heap.size) l v:=by obtain⟨p,c,xs,rfl,ho,hc⟩:=h;obtain⟨p',c',he,hle⟩:=ho.cap;injection he with _ _ e3;subst e3;refine⟨p,c,rfl,hle,λhl=>?_⟩;have hn:0<l.length:=nj.2 hl;obtain⟨g,cap,he,hB,hg,_,hcell⟩:=ho.aKl hn;injection he with e1 e2 e3;subst e1;refine⟨_,rfl,⟨hB,hg⟩,(hc.dO λh=>h.mono λk hk=>⟨hk.1,hk.2.1⟩).at λj u hu=>?_⟩;rw[bM,cL];exact hcell j u hu
def iR.mod{S:Nat->Prop}{w':World}{B:Nat}{l:List Pt}{v:Value}(h:iR w B l v)(hm:Mod S w w')(hS:∀k,B<=k->k<w.heap.size->¬S k):iR w' B l v:=by obtain⟨p,c,xs,rfl,ho,hc⟩:=h;refine⟨p,c,xs,rfl,ho.mod hm λk hk=>hS k (ho.lt k hk).1 (ho.lt k hk).2,hc.dO λh=>(h.mod hm λk hk=>hS k hk.1 hk.2.1).mono λk hk=>⟨hk.1,oB hk.2.1 hm.size,hk.2.2⟩⟩
def iR.still{w':World}{B:Nat}{l:List Pt}{v:Value}(h:iR w B l v)(hm:Still w w'):iR w' B l v:=h.mod hm λ_ _ _ h=>h
end Go.Proofs.YtihaaoehhgmphaaGreatDoor.L
namespace Go.Proofs.YtihaaoehhgmphaaGreatDoor.L
open IntKind
def Mg(x p:Pt):Prop:=p.k=0/\x.k=0/\x.q=p.q
def auZ(p:Pt):f_ [] p=[p]:=rfl
def Lf(l:List Pt)(x p:Pt):f_ (l++[x]) p=if p.k=0/\x.k=0/\x.q=p.q then l++[.mk x.k x.q (x.t++p.t) x.n x.o x.w]else l++[x]++[p]:=by unfold f_;simp
def aKG{l:List Pt}(h:l≠[]):∃m x,l=m++[x]:=⟨l.dropLast,l.getLast h,(List.dropLast_concat_getLast h).symm⟩
def Norm:List Pt->Prop
 |[]=>True
 |[_]=>True
 |a::b::r=>¬Mg a b/\Norm (b::r)
def Norm.tail{a:Pt}{r:List Pt}(h:Norm (a::r)):Norm r:=by
 cases r with
 |nil=>trivial
 |cons b r=>exact h.2
def Norm.snoc:∀{l:List Pt} {x p:Pt},Norm (l++[x])->¬Mg x p->Norm (l++[x]++[p])
 |[],x,p,_,h=>⟨h,trivial⟩
 |[a],x,p,h,h2=>⟨h.1,h2,trivial⟩
 |a::b::l,x,p,h,h2=>⟨h.1,Norm.snoc (l:=b::l) h.2 h2⟩
def Norm.left:∀{l m:List Pt},Norm (l++m)->Norm l
 |[],_,_=>trivial
 |[a],_,_=>trivial
 |a::b::l,m,h=>⟨h.1,Norm.left (l:=b::l) h.2⟩
def Norm.right:∀{l m:List Pt},Norm (l++m)->Norm m
 |[],_,h=>h
 |a::l,m,h=>Norm.right (l:=l) (Norm.tail h)
def Norm.swap:∀{l:List Pt} {x y:Pt},Norm (l++[x])->x.k=y.k->x.q=y.q->Norm (l++[y])
 |[],x,y,_,_,_=>trivial
 |[a],x,y,h,h1,h2=>⟨λm=>h.1 ⟨by rw[h1];exact m.1,m.2.1,by rw[h2];exact m.2.2⟩,trivial⟩
 |a::b::l,x,y,h,h1,h2=>⟨h.1,Norm.swap (l:=b::l) h.2 h1 h2⟩
def Norm.add{l:List Pt}{p:Pt}(h:Norm l):Norm (f_ l p):=by
 by_cases hl:l=[]
 .subst hl;trivial
 .obtain⟨m,x,rfl⟩:=aKG hl
  rw[Lf];split
  .exact h.swap rfl rfl
  .rename_i hn
   exact h.snoc hn
def au0{p:Pt}{l:List Pt}(h:p∈l):SizeOf.sizeOf p.w<SizeOf.sizeOf l:=by
 have h1:=XU h;have h2:SizeOf.sizeOf p.w<SizeOf.sizeOf p:=by cases p;simp only[Pt.w,Pt.mk.sizeOf_spec];omega
 omega
mutual
def Pt.wt:Pt->Nat
 |.mk _ _ t n o w=>4*t.length+n.length+o.length+8+aHf w
def aHf:List Pt->Nat
 |[]=>0
 |p::r=>p.wt+aHf r
end
def Pt.uL(p:Pt):p.wt=4*p.t.length+p.n.length+p.o.length+8+aHf p.w:=by cases p;simp only[Pt.wt,Pt.t,Pt.n,Pt.o,Pt.w]
def Gk:∀a b:List Pt,aHf (a++b)=aHf a+aHf b
 |[],b=>by simp[aHf]
 |p::a,b=>by simp only[qP,aHf,Gk a b];omega
def Tu(p:Pt):aHf [p]=p.wt:=by simp[aHf]
def adQ{p:Pt}:∀{l:List Pt},p∈l->p.wt<=aHf l
 |a::l,h=>by
  rcases gE.1 h with rfl|h
  .simp only[aHf];omega
  .have:=adQ h
   simp only[aHf];omega
def LJ:∀l:List Pt,8*l.length<=aHf l
 |[]=>by simp
 |p::l=>by have h1:=LJ l;have h2:=p.uL;simp only[aHf,a_];omega
def axX(l:List Pt)(p:Pt):aHf (f_ l p)<=aHf l+p.wt:=by
 by_cases h:l=[]
 .subst h
  rw[auZ];simp[aHf]
 .obtain⟨m,x,rfl⟩:=aKG h
  rw[Lf];split
  .have h1:=x.uL
   have h2:=p.uL;simp only[Gk,Tu,Pt.wt,aHb];omega
  .simp only[Gk,Tu]
   omega
def LK:∀(ps l:List Pt),aHf (ps.foldl f_ l)<=aHf l+aHf ps
 |[],l=>by simp[aHf]
 |p::ps,l=>by have h1:=LK ps (f_ l p);have h2:=axX l p;simp only[aJ4,aHf];omega
def aaF(t:ag):(single t).length<=4*t.length+2:=by
 have:∀t:ag,(t.flatMap λb=>if b=39 then[39,92,39,39]else[b]).length<=4*t.length:=by
  intro t
  induction t with
  |nil=>simp
  |cons a t ih=>
   rw[aIj,aHb,a_];split
   .simp only[a_,cq];omega
   .simp only[a_,cq];omega
 have:=this t;simp only[single,a_,aHb,cq];omega
mutual
def Pt.aeK:∀p:Pt,p.pr.length<=p.wt
 |.mk k q t n o w=>by
  have hw:=DT w;have hs:=aaF t;have hq:∀x:ag,(Eb q x).length<=x.length+2:=by
   intro x;unfold Eb;split
   .simp
   .omega
  simp only[Pt.pr,Pt.wt];split
  .split<;>omega
  .refine kf (hq _) ?_
   split
   .simp;omega
   .split
    .simp;omega
    .split
     .split
      .simp;omega
      .simp;omega
     .simp only[cq];omega
def DT:∀l:List Pt,(gA l).length<=aHf l
 |[]=>by simp[gA]
 |p::l=>by have h1:=p.aeK;have h2:=DT l;simp only[gA,aHf,aHb];omega
end
def Bears(one:ag->Rs (List Pt×Nat)):Prop:=∀s x,one s=.ok x->aHf x.1<=12*x.2
def D1(P:ag->Rs (List Pt)):Prop:=∀s l,P s=.ok l->aHf l<=12*s.length
def aqE{P:ag->Rs (List Pt)}(_:D1 P){q:Bool}{s:ag}{p:Pt}(h:GU P q s=.ok p):p.wt<=12*s.length+12:=by cases h
def aaG{P:ag->Rs (List Pt)}(hP:D1 P){q:Bool}{r:ag}{x:Pt×Nat}(h:aHW P q (36::r)=.ok x):x.1.wt<=12*x.2:=by
 unfold aHW at h;simp only[aJY,FQ]at h;split at h
 .split at h
  .cases h
  .rename_i t ht
   have hh:r.head?=some 40\/r.head?=some 123:=by assumption
   have h1:t.length+3<=(36::r).length:=by
    obtain⟨c,r2,rfl⟩:∃c r2,r=c::r2:=by
     cases r with
     |nil=>rcases hh with e|e<;>cases e
     |cons c r2=>exact⟨c,r2,rfl⟩
    rcases hh with e|e
    .obtain rfl:c=40:=by simpa using e
     have ht:dV 29 41 r2=some t:=ht;have:=aI0 _ _ _ _ ht;simp only[a_];omega
    .obtain rfl:c=123:=by simpa using e
     have ht:dV 29 125 r2=some t:=ht;have:=aI0 _ _ _ _ ht;simp only[a_];omega
   split at h
   .obtain⟨p,h2,h⟩:=Rs.fh h
    injection h with h;have h3:=aqE hP h2;rw[eZ]at h3;rw[<-h];dsimp only;omega
   .split at h
    .injection h with h
     rw[<-h];simp only[Pt.wt,aHf,cq,eZ];omega
    .injection h with h
     rw[<-h];simp only[Pt.wt,aHf,cq,eZ];omega
 .split at h
  .injection h with h
   have:=vP r;rw[<-h];simp only[Pt.wt,aHf,cq,eZ];omega
  .split at h
   .injection h with h
    rw[<-h];simp only[Pt.wt,aHf,cq,eZ];omega
   .injection h with h
    rw[<-h];simp[Pt.wt,aHf]
def yh(q:Bool)(t:ag):(tx q t).wt=4*t.length+8:=by simp[tx,Pt.wt,aHf]
def SU{one:ag->Rs (List Pt×Nat)}(ht:Ah one)(hb:Bears one):∀(n:Nat) (acc:List Pt) (s:ag) (l:List Pt),gH one n acc s=.ok l->aHf l<=aHf acc+12*s.length
 |0,_,_,_,h=>by cases h
 |n+1,acc,[],l,h=>by injection h with h;rw[h];exact FJ _ _
 |n+1,acc,c::r,l,h=>by simp only[gH]at h;obtain⟨x,h1,h⟩:=Rs.fh h;have h2:=ht _ _ h1;have h3:=SU ht hb n _ _ _ h;have h4:=LK x.1 acc;have h5:=hb _ _ h1;rw[j_]at h3;omega
def Zx{P:ag->Rs (List Pt)}(hP:D1 P):Bears (nT P):=by
 intro s x h;cases s with
 |nil=>cases h
 |cons c r=>
  simp only[nT]at h;split at h
  .rename_i hc
   subst hc;obtain⟨y,h1,h⟩:=Rs.fh h;injection h with h;have:=aaG hP h1;rw[<-h];simpa[aHf]using this
  .split at h
   .injection h with h
    rw[<-h];simp only[aHf,yh,eZ];omega
   .injection h with h
    rw[<-h];simp[aHf,yh]
def adR{P:ag->Rs (List Pt)}(hP:D1 P){s:ag}{l:List Pt}(h:qt P s=.ok l):aHf l<=12*s.length+8:=by
 unfold qt at h;split at h
 .injection h with h
  rw[<-h];simp[aHf,yh]
 .have:=SU (F_ P) (Zx hP) _ _ _ _ h
  simp only[aHf]at this;omega
def abH{c:UInt8}{r t:ag}(hc:c=39\/c=34)(h:fH 30 (c::r)=some t):t.length+1<=r.length:=by
 rcases hc with rfl|rfl
 .have:rW r=some t:=h
  have:=F0 this;omega
 .have:dV 29 34 r=some t:=h
  have:=aI0 29 34 _ _ this;omega
def Zy{P:ag->Rs (List Pt)}(hP:D1 P):Bears (aIE P):=by
 intro s x h;cases s with
 |nil=>cases h
 |cons c r=>
  simp only[aIE]at h;split at h
  .rename_i hc
   subst hc;obtain⟨y,h1,h⟩:=Rs.fh h;injection h with h;have:=aaG hP h1;rw[<-h];simpa[aHf]using this
  .split at h
   .split at h
    .cases h
    .rename_i hc t ht
     split at h
     .injection h with h
      rw[<-h];simp only[aHf,yh,eZ];omega
     .rename_i kG
      have hq:=abH (Or.resolve_left (by assumption) kG) ht;split at h
      .obtain⟨l,h3,h⟩:=Rs.fh h
       injection h with h;have h4:=adR hP h3;rw[eZ]at h4;rw[<-h];dsimp only;omega
      .injection h with h
       rw[<-h];simp only[aHf,yh,eZ];omega
   .injection h with h
    rw[<-h];simp[aHf,yh]
def L_:∀L:Nat,D1 (aHz L)
 |0=>λs l h=>by cases h
 |L+1=>λs l h=>by have:=SU (Rx _) (Zy (L_ L)) _ _ _ _ h;simpa[aHf]using this
end Go.Proofs.YtihaaoehhgmphaaGreatDoor.L
namespace Go.Proofs.YtihaaoehhgmphaaGreatDoor.A
open IntKind Go.RowKit Vc
abbrev lt(a b:ag):Bool:=Op.bytesLess a b
def lt_irrefl:∀a:ag,lt a a=false
 |[]=>rfl
 |a::x=>by have:=lt_irrefl x;simp only[lt,Op.bytesLess]at this⊢;simp[this]
def lt_trans:∀{a b c:ag},lt a b=true->lt b c=true->lt a c=true
 |[],[],_,h,_=>by cases h
 |_::_,[],_,h,_=>by cases h
 |_,_::_,[],_,h=>by cases h
 |[],_::_,_::_,_,_=>rfl
 |a::x,b::y,c::z,h1,h2=>by
  simp only[lt,Op.bytesLess,QD,e_,nk,DA]at h1 h2⊢;rcases h1 with h1|⟨rfl,h1⟩
  .rcases h2 with h2|⟨rfl,_⟩
   .exact .inl (UInt8.lt_trans h1 h2)
   .exact .inl h1
  .rcases h2 with h2|⟨rfl,h2⟩
   .exact .inl h2
   .exact .inr ⟨rfl,lt_trans (a:=x) (b:=y) h1 h2⟩
def aeL:∀a b:ag,decide (Go.Lib.compareBytes a b<0)=lt a b
 |[],[]=>rfl
 |[],_::_=>rfl
 |_::_,[]=>rfl
 |a::x,b::y=>by
  have ih:=aeL x y;simp only[Go.Lib.compareBytes,lt,Op.bytesLess]
  by_cases h:a<b
  .simp[h]
  ·by_cases h':b<a
   .have:a≠b:=λe=>by subst e;exact h h'
    simp[h,h',this]
   .have:a=b:=Yj (Kq.1 h') (Kq.1 h)
    subst this;simp only[h,jq,Q6,aJA,BEq.rfl,Br];exact ih
def adS:∀a b:ag,decide (Go.Lib.compareBytes a b=0)=decide (a=b)
 |[],[]=>rfl
 |[],_::_=>rfl
 |_::_,[]=>rfl
 |a::x,b::y=>by
  have ih:=adS x y;simp only[Go.Lib.compareBytes]
  by_cases h:a<b
  .have:a≠b:=λe=>by subst e;exact UInt8.lt_irrefl _ h
   simp[h,this]
  ·by_cases h':b<a
   .have:a≠b:=λe=>by subst e;exact h h'
    simp[h,h',this]
   .have:a=b:=Yj (Kq.1 h') (Kq.1 h)
    subst this;simp only[h,jq,List.cons.injEq,true_and];exact ih
def BM(c:Int):Bool:=(decide (65<=c)&&decide (c<=90))||(decide (97<=c)&&decide (c<=122))||decide (c=95)
def BZ(c:Int):Bool:=decide (48<=c)&&decide (c<=57)
def letter(c:UInt8):Bool:=BM (c.toNat:Int)
def digit(c:UInt8):Bool:=BZ (c.toNat:Int)
def bT(first:Bool):ag->Nat
 |[]=>0
 |c::r=>if(letter c||(!first&&digit c))=true then bT false r+1 else 0
def vP:∀(b:Bool) (s:ag),bT b s<=s.length
 |_,[]=>aR _
 |b,c::r=>by have:=vP false r;simp only[bT,a_];split<;>omega
def isName(s:ag):Bool:=!decide (s=[])&&decide (bT true s=s.length)
structure Vr where
 name:ag
 value:ag
 exp:Bool
 ro:Bool
deriving DecidableEq
def Vr.zero:Vr:=⟨[],[],false,false⟩
def mN(v:Vr):List Value:=[.string (S v.name),.string (S v.value),.bool v.exp,.bool v.ro]
def vcs(l:List Vr):List Value:=l.flatMap mN
def R2(l m:List Vr):vcs (l++m)=vcs l++vcs m:=by simp[vcs]
def K1(l:List Vr):(vcs l).length=l.length*4:=by
 induction l with
 |nil=>rfl
 |cons a l ih=>have e:vcs (a::l)=mN a++vcs l:=rfl;rw[e,aHb,ih];simp[mN];omega
def asu(v:Vr):∀u∈mN v,u.oneCell'=true:=by intro u hu;simp only[mN,gE,ug,uh]at hu;rcases hu with rfl|rfl|rfl|rfl<;>rfl
def awD(l:List Vr):∀u∈vcs l,u.oneCell'=true:=by intro u hu;simp only[vcs,Qr]at hu;obtain⟨x,_,hx⟩:=hu;exact asu x u hx
def adT:∀{l:List Vr} {i:Nat} {x:Vr},l[i]?=some x->(vcs l)[i*4]?=some (.string (S x.name))/\(vcs l)[i*4+1]?=some (.string (S x.value))/\(vcs l)[i*4+2]?=some (.bool x.exp)/\(vcs l)[i*4+3]?=some (.bool x.ro)
 |a::l,0,x,h=>by obtain rfl:=bO h;exact⟨rfl,rfl,rfl,rfl⟩
 |a::l,i+1,x,h=>by have ih:=adT (l:=l) (i:=i) (by simpa using h);rw[show(i+1)*4=i*4+4 by omega];exact ih
def pos(n:ag):List Vr->Nat
 |[]=>0
 |a::r=>if lt a.name n=true then pos n r+1 else 0
def get(n:ag):List Vr->Option Vr
 |[]=>none
 |a::r=>if lt a.name n=true then get n r else if a.name=n then some a else none
def ins(v:Vr):List Vr->List Vr
 |[]=>[v]
 |a::r=>if lt a.name v.name=true then a::ins v r else if a.name=v.name then v::r else v::a::r
def del(n:ag):List Vr->List Vr
 |[]=>[]
 |a::r=>if lt a.name n=true then a::del n r else if a.name=n then r else a::r
def Ub(n:ag):∀l:List Vr,pos n l<=l.length
 |[]=>aR _
 |a::r=>by have:=Ub n r;simp only[pos,a_];split<;>omega
def Tv(n:ag):∀l:List Vr,get n l=(match l[pos n l]? with
  |some v=>if v.name=n then some v else none
  |none=>none)
 |[]=>rfl
 |a::r=>by
  have ih:=Tv n r;simp only[pos,get];split
  .rw[ih]
   simp
  ·rfl
def aeM{n:ag}:∀{l:List Vr} {i:Nat} {v:Vr},l[i]?=some v->i<pos n l->lt v.name n=true
 |a::r,i,v,h,hi=>by
  simp only[pos]at hi;split at hi
  .cases i with
   |zero=>obtain rfl:=bO h;assumption
   |succ i=>exact aeM (l:=r) (i:=i) (by simpa using h) (by omega)
  .omega
def Uc{n:ag}:∀{l:List Vr} {v:Vr},l[pos n l]?=some v->lt v.name n=false
 |a::r,v,h=>by
  simp only[pos]at h;split at h
  .exact Uc (l:=r) (by simpa using h)
  .obtain rfl:=bO h
   rename_i h';simpa using h'
def aIx(l:List Vr):Prop:=l.Pairwise λa b=>lt a.name b.name=true
def axY{n:ag}{l:List Vr}(hs:aIx l){i:Nat}{v:Vr}(h:l[i]?=some v)(hi:pos n l<=i):lt v.name n=false:=by
 rcases Nat.eq_or_lt_of_le hi with e|hlt
 .rw[<-e]at h
  exact Uc h
 .have hp:=oB hlt (Kr (iw.1 h).1)
  have h1:l[pos n l]?=some l[pos n l]:=iy hp;have h2:=Uc h1;have hil:=(iw.1 h).1;have h3:=List.pairwise_iff_getElem.1 hs (pos n l) i hp hil hlt;rw[(iw.1 h).2]at h3;cases h4:lt v.name n with
  |false=>rfl
  |true=>rw[lt_trans h3 h4]at h2;cases h2
def put_eq(v:Vr):∀l:List Vr,l.take (pos v.name l)++[v]++l.drop (pos v.name l+if(get v.name l).isSome=true then 1 else 0)=ins v l
 |[]=>rfl
 |a::r=>by
  have ih:=put_eq v r;simp only[pos,get,ins];split
  .rw[<-ih,Nat.add_right_comm (pos _ _) 1,aJY]
   rfl
  .split
   ·rfl
   ·rfl
def aaH(v:Vr):∀l:List Vr,(ins v l).length=l.length+if(get v.name l).isSome=true then 0 else 1
 |[]=>rfl
 |a::r=>by
  have ih:=aaH v r;simp only[ins,get];split
  .simp only[a_,ih]
   omega
  .split
   .simp
   .simp
def getD(n:ag)(l:List Vr):Vr:=(get n l).getD Vr.zero
def yC(l:List Vr)(n x:ag):List Vr×Int:=if isName n=true then(if(getD n l).ro=true then([],150)else(ins ⟨n,x,(getD n l).exp,(getD n l).ro⟩ l,0))else([],1)
def aeN(c:UInt8):Bool:=c==32||c==9||c==10
def trim(s:ag):ag:=s.dropWhile aeN
def acJ(s:ag):(trim s).length<=s.length:=by
 induction s with
 |nil=>exact aR _
 |cons c s ih=>
  unfold trim;rw[PJ];split
  .exact kf ih (by simp)
  .exact aR _
def aIF:List ag:=[[60,60],[62,62],[60,61],[62,61],[61,61],[33,61],[38,38],[124,124],[43,61],[45,61],[42,61],[47,61],[37,61],[43],[45],[42],[47],[37],[60],[62],[38],[124],[94],[63],[58],[61],[33],[126],[40],[41]]
def afs:List (List ag):=[[[124,124]],[[38,38]],[[124]],[[94]],[[38]],[[61,61],[33,61]],[[60],[60,61],[62],[62,61]],[[60,60],[62,62]],[[43],[45]],[[42],[47],[37]]]
def lv(l:Nat):List ag:=afs.getD l []
def Hi:List ag:=[[61],[43,61],[45,61],[42,61],[47,61],[37,61]]
def Hj:List ag:=[[45],[43],[126],[33]]
def di(s:ag):ag:=(aIF.find? (λo=>o.isPrefixOf (trim s))).getD []
def acK{s:ag}(h:di s≠[]):di s∈aIF/\(di s).isPrefixOf (trim s)=true:=by
 unfold di at h⊢;cases hf:aIF.find? (λo=>o.isPrefixOf (trim s))with
 |none=>rw[hf]at h;exact absurd rfl h
 |some o=>exact⟨O1 hf,QE (p:=λo:ag=>o.isPrefixOf (trim s)) hf⟩
def jw(s:ag):ag:=(trim s).drop (di s).length
def awE{s:ag}(h:di s≠[]):(jw s).length<s.length:=by
 have h1:=acJ s;have h2:=(acK h).2;have h3:(di s).length<=(trim s).length:=by rw[OW]at h2;exact h2.length_le
 have h4:0<(di s).length:=nj.2 h;unfold jw;rw[j_];omega
def CJ(s:ag):Option (ag×ag×ag):=
 let t:=trim s
 let n:=bT true t
 let r:=t.drop n
 if n≠0/\di r∈Hi then some (t.take n,di r,jw r)else none
def asv{o:ag}(h:o∈Hi):o≠[]:=by intro e;subst e;revert h;decide
inductive Tm where
 |num(n:Int)
 |sJ(x:ag)
 |IB(op:ag)(t:Tm)
 |bin(op:ag)(a b:Tm)
 |aJQ(c a b:Tm)
 |set(x op:ag)(t:Tm)
inductive Md where
 |expr(d:Nat)
 |aJQ(d:Nat)
 |ig(l d:Nat)
 |loop(l d:Nat)(a:Tm)
 |sig(d:Nat)
def LL(c:UInt8):Bool:=letter c||digit c
def ql(s:ag):Nat:=(s.takeWhile LL).length
def au1(s:ag):ql s<=s.length:=(List.takeWhile_prefix _).length_le
def D2(c:UInt8):Bool:=decide (48<=c.toNat)&&decide (c.toNat<=57)||decide (97<=c.toNat)&&decide (c.toNat<=102)||decide (65<=c.toNat)&&decide (c.toNat<=70)
def qf(s:ag):Nat×ag:=match s with
 |a::b::c::r=>if a=48/\(b=120\/b=88)then(16,c::r)else if a=48 then(8,s)else(10,s)
 |[a,_]=>if a=48 then(8,s)else(10,s)
 |_=>(10,s)
def Es(s:ag):Option Int:=if(qf s).2.all D2=true then(match qe (qf s).1 (qf s).2 with|.ok n=>some n|.bad _=>none)else none
def agm(s:ag):Pr (Tm×ag):=
 let w:=s.take (ql s)
 let r:=s.drop (ql s)
 if isName w=true then .ok (.sJ w,r)else match Es w with
  |some n=>.ok (.num n,r)
  |none=>.bad 130
abbrev Rs:=Option (Pr (Tm×ag))
def AG(r:Rs)(f:Tm->ag->Rs):Rs:=match r with
 |none=>none
 |some (.bad k)=>some (.bad k)
 |some (.ok (t,s))=>f t s
def ps:Nat->Md->ag->Rs
 |0,_,_=>none
 |f+1,.expr d,s=>if 30<d then some (.bad 2)else match CJ s with
  |some (n,o,r)=>AG (ps f (.expr (d+1)) r) λt r'=>some (.ok (.set n o.dropLast t,r'))
  |none=>ps f (.aJQ d) (trim s)
 |f+1,.aJQ d,s=>AG (ps f (.ig 0 d) s) λc r=>if di r≠[63]then some (.ok (c,trim r))else
   AG (ps f (.expr (d+1)) (jw r)) λa r2=>if di r2≠[58]then some (.bad 130)else
    AG (ps f (.aJQ (d+1)) (jw r2)) λb r3=>some (.ok (.aJQ c a b,r3))
 |f+1,.ig l d,s=>if 10<=l then ps f (.sig d) s else AG (ps f (.ig (l+1) d) s) λa r=>ps f (.loop l d a) r
 |f+1,.loop l d a,s=>if di s∈lv l then AG (ps f (.ig (l+1) d) (jw s)) λb r=>ps f (.loop l d (.bin (di s) a b)) r else some (.ok (a,trim s))
 |f+1,.sig d,s=>if 30<d then some (.bad 2)else
   if di s∈Hj then AG (ps f (.sig (d+1)) (jw s)) λt r=>some (.ok (.IB (di s) t,r))else
   if di s=[40]then AG (ps f (.expr (d+1)) (jw s)) λt r=>if di r≠[41]then some (.bad 130)else some (.ok (t,jw r))else
   some (agm (trim s))
def axZ{o:ag}{l:Nat}(h:o∈lv l):o∈aIF/\l<10:=by
 unfold lv at h
 by_cases hl:l<10
 .refine⟨?_,hl⟩
  have:∀l,l<10->∀o∈afs.getD l [],o∈aIF:=by decide
  exact this l hl o h
 .rw[Xy,ud (by show 10<=l;omega)]at h
  cases h
def aft{o:ag}{l:Nat}(h:o∈lv l):o≠[]:=by
 intro e;subst e;have:([]:ag)∉aIF:=by decide
 exact this (axZ h).1
def Cj(c:UInt8):Nat:=if 48<=c.toNat/\c.toNat<=57 then c.toNat-48 else if 97<=c.toNat/\c.toNat<=102 then c.toNat-87 else if 65<=c.toNat/\c.toNat<=70 then c.toNat-55 else 99
def awF(s:ag):(qf s).1=8\/(qf s).1=10\/(qf s).1=16:=by
 unfold qf;split
 .split
  .exact .inr (.inr rfl)
  .split
   .exact .inl rfl
   .exact .inr (.inl rfl)
 .split
  .exact .inl rfl
  .exact .inr (.inl rfl)
 .exact .inr (.inl rfl)
def ax0(s:ag):Option Int:=match s with
 |[]=>some 0
 |c::r=>if c=45 then(Es r).map λn=>-n else Es (c::r)
def lvl(o:ag):Nat:=
 if o=[124,124]then 1 else if o=[38,38]then 2 else if o=[124]then 3 else if o=[94]then 4 else if o=[38]then 5 else
 if o=[61,61]then 6 else if o=[33,61]then 6 else if o=[60]then 7 else if o=[60,61]then 7 else if o=[62]then 7 else if o=[62,61]then 7 else
 if o=[60,60]then 8 else if o=[62,62]then 8 else if o=[43]then 9 else if o=[45]then 9 else if o=[42]then 10 else if o=[47]then 10 else if o=[37]then 10 else 0
inductive Cm where
 |expr(d:Nat)
 |cond(d:Nat)
 |bin(m d:Nat)
 |Hy(m d:Nat)(a:Tm)
 |sK(d:Nat)
inductive Cl:Cm->ag->Pr (Tm×ag)->Prop
 |aFg {d:Nat} {s:ag} (h:30<d):Cl (.expr d) s (.bad 2)
 |aFp {d:Nat} {s n o r r':ag} {t:Tm} (h:¬30<d) (ha:CJ s=some (n,o,r)) (h1:Cl (.expr (d+1)) r (.ok (t,r'))):Cl (.expr d) s (.ok (.set n o.dropLast t,r'))
 |aFa {d:Nat} {s n o r:ag} {k:Nat} (h:¬30<d) (ha:CJ s=some (n,o,r)) (h1:Cl (.expr (d+1)) r (.bad k)):Cl (.expr d) s (.bad k)
 |aFh {d:Nat} {s:ag} {q:Pr (Tm×ag)} (h:¬30<d) (ha:CJ s=none) (h1:Cl (.cond d) (trim s) q):Cl (.expr d) s q
 |aFq {d:Nat} {s:ag} {k:Nat} (h1:Cl (.bin 1 d) s (.bad k)):Cl (.cond d) s (.bad k)
 |aFx {d:Nat} {s r:ag} {c:Tm} (h1:Cl (.bin 1 d) s (.ok (c,r))) (ho:di r≠[63]):Cl (.cond d) s (.ok (c,trim r))
 |aFi {d:Nat} {s r:ag} {c:Tm} {k:Nat} (h1:Cl (.bin 1 d) s (.ok (c,r))) (ho:di r=[63]) (h2:Cl (.expr (d+1)) (jw r) (.bad k)):Cl (.cond d) s (.bad k)
 |aFc {d:Nat} {s r r2:ag} {c a:Tm} (h1:Cl (.bin 1 d) s (.ok (c,r))) (ho:di r=[63]) (h2:Cl (.expr (d+1)) (jw r) (.ok (a,r2))) (ie:di r2≠[58]):Cl (.cond d) s (.bad 130)
 |aFj {d:Nat} {s r r2:ag} {c a:Tm} {k:Nat} (h1:Cl (.bin 1 d) s (.ok (c,r))) (ho:di r=[63]) (h2:Cl (.expr (d+1)) (jw r) (.ok (a,r2))) (ie:di r2=[58]) (h3:Cl (.cond (d+1)) (jw r2) (.bad k)):Cl (.cond d) s (.bad k)
 |aFy {d:Nat} {s r r2 r3:ag} {c a b:Tm} (h1:Cl (.bin 1 d) s (.ok (c,r))) (ho:di r=[63]) (h2:Cl (.expr (d+1)) (jw r) (.ok (a,r2))) (ie:di r2=[58]) (h3:Cl (.cond (d+1)) (jw r2) (.ok (b,r3))):Cl (.cond d) s (.ok (.aJQ c a b,r3))
 |aFk {m d:Nat} {s:ag} {k:Nat} (h1:Cl (.sK d) s (.bad k)):Cl (.bin m d) s (.bad k)
 |bin {m d:Nat} {s r:ag} {a:Tm} {q:Pr (Tm×ag)} (h1:Cl (.sK d) s (.ok (a,r))) (h2:Cl (.Hy m d a) r q):Cl (.bin m d) s q
 |aFr {m d:Nat} {s:ag} {a:Tm} (h:lvl (di s)<m\/lvl (di s)=0):Cl (.Hy m d a) s (.ok (a,trim s))
 |aFs {m d:Nat} {s:ag} {a:Tm} {k:Nat} (h:¬(lvl (di s)<m\/lvl (di s)=0)) (h1:Cl (.bin (lvl (di s)+1) d) (jw s) (.bad k)):Cl (.Hy m d a) s (.bad k)
 |aFl {m d:Nat} {s r:ag} {a b:Tm} {q:Pr (Tm×ag)} (h:¬(lvl (di s)<m\/lvl (di s)=0)) (h1:Cl (.bin (lvl (di s)+1) d) (jw s) (.ok (b,r))) (h2:Cl (.Hy m d (.bin (di s) a b)) r q):Cl (.Hy m d a) s q
 |aFm {d:Nat} {s:ag} (h:30<d):Cl (.sK d) s (.bad 2)
 |unOp {d:Nat} {s r:ag} {t:Tm} (h:¬30<d) (ho:di s∈Hj) (h1:Cl (.sK (d+1)) (jw s) (.ok (t,r))):Cl (.sK d) s (.ok (.IB (di s) t,r))
 |aFd {d:Nat} {s:ag} {k:Nat} (h:¬30<d) (ho:di s∈Hj) (h1:Cl (.sK (d+1)) (jw s) (.bad k)):Cl (.sK d) s (.bad k)
 |aFb {d:Nat} {s:ag} {k:Nat} (h:¬30<d) (ho:di s=[40]) (h1:Cl (.expr (d+1)) (jw s) (.bad k)):Cl (.sK d) s (.bad k)
 |aFe {d:Nat} {s r:ag} {t:Tm} (h:¬30<d) (ho:di s=[40]) (h1:Cl (.expr (d+1)) (jw s) (.ok (t,r))) (ie:di r≠[41]):Cl (.sK d) s (.bad 130)
 |aFt {d:Nat} {s r:ag} {t:Tm} (h:¬30<d) (ho:di s=[40]) (h1:Cl (.expr (d+1)) (jw s) (.ok (t,r))) (ie:di r=[41]):Cl (.sK d) s (.ok (t,jw r))
 |aFn {d:Nat} {s:ag} (h:¬30<d) (ho:di s∉Hj) (ie:di s≠[40]):Cl (.sK d) s (agm (trim s))
def aJK(b:Bool):Int:=if b=true then 1 else 0
def shN(b:Int):Nat:=min (Int.toNat (bits .and .u64 (u64.wrap b) 63)) (i64.bits)
def ayZ(op:ag)(a b:Int):Int:=
 if op=[43]then i64.wrap (a+b)else if op=[45]then i64.wrap (a-b)else if op=[42]then i64.wrap (a*b)else
 if op=[47]then i64.wrap (Int.tdiv a b)else if op=[37]then Int.tmod a b else
 if op=[60,60]then i64.wrap (a*2^shN b)else if op=[62,62]then Int.fdiv a (2^shN b)else
 if op=[38]then bits .and .i64 a b else if op=[124]then bits .or .i64 a b else if op=[94]then bits .xor .i64 a b else
 if op=[61,61]then aJK (decide (a=b))else if op=[33,61]then aJK (!decide (a=b))else if op=[60]then aJK (decide (a<b))else
 if op=[60,61]then aJK (decide (a<=b))else if op=[62]then aJK (decide (b<a))else aJK (decide (b<=a))
def agn(op:ag)(a b:Int):Pr Int:=if b=0/\(op=[47]\/op=[37])then .bad 131 else .ok (ayZ op a b)
def sK(op:ag)(n:Int):Int:=if op=[45]then i64.wrap (0-n)else if op=[126]then bits .xor .i64 (-1) n else if op=[33]then aJK (decide (n=0))else n
def ago(x:ag)(V:List Vr):Pr Int:=match ax0 (getD x V).value with
 |some n=>.ok n
 |none=>.bad 130
def az0(V:List Vr)(x:ag)(z:Int):Pr (Int×List Vr):=if(yC V x (Lib.itoa z)).2=0 then .ok (z,(yC V x (Lib.itoa z)).1)else .bad (yC V x (Lib.itoa z)).2.toNat
def uV{α β:Type}(r:Pr α)(f:α->Pr β):Pr β:=match r with
 |.bad k=>.bad k
 |.ok a=>f a
def ev:Tm->List Vr->Pr (Int×List Vr)
 |.num n,V=>.ok (n,V)
 |.sJ x,V=>uV (ago x V) λn=>.ok (n,V)
 |.IB op t,V=>uV (ev t V) λp=>.ok (sK op p.1,p.2)
 |.bin op a b,V=>uV (ev a V) λp=>
  if op=[124,124]then(if p.1≠0 then .ok (1,p.2)else uV (ev b p.2) λq=>.ok (aJK (!decide (q.1=0)),q.2))
  else if op=[38,38]then(if p.1=0 then .ok (0,p.2)else uV (ev b p.2) λq=>.ok (aJK (!decide (q.1=0)),q.2))
  else uV (ev b p.2) λq=>uV (agn op p.1 q.1) λz=>.ok (z,q.2)
 |.aJQ c a b,V=>uV (ev c V) λp=>if p.1≠0 then ev a p.2 else ev b p.2
 |.set x op t,V=>uV (ev t V) λp=>uV (if op=[]then .ok p.1 else uV (ago x p.2) λm=>agn op m p.1) λz=>az0 p.2 x z
abbrev I64(n:Int):Prop:=-9223372036854775808<=n/\n<9223372036854775808
end Go.Proofs.YtihaaoehhgmphaaGreatDoor.A
namespace Go.Proofs.YtihaaoehhgmphaaGreatDoor.L
open IntKind Go.RowKit Vc
variable{w:World}{α:Type}
structure aHd(α:Type)where
 sz:Nat
 E:World->(Nat->Prop)->α->List Value->Prop
 len:∀{w:World} {F:Nat->Prop} {x:α} {cs:List Value},E w F x cs->cs.length=sz
 one:∀{w:World} {F:Nat->Prop} {x:α} {cs:List Value},E w F x cs->∀u∈cs,u.oneCell'=true
 dO:∀{w w':World} {F G:Nat->Prop} {x:α} {cs:List Value},(∀k,F k->G k)->(∀a v,(∃k,F k/\a.block=k)->w.cell? a=some v->w'.cell? a=some v)->E w F x cs->E w' G x cs
def aHd.Cs(e:aHd α)(w:World)(F:Nat->Prop):List α->List Value->Prop
 |[],xs=>xs=[]
 |x::r,xs=>∃cs ys,xs=cs++ys/\e.E w F x cs/\e.Cs w F r ys
def qb(w:World)(b:Addr)(xs:List Value):Prop:=∀(j:Nat) (u:Value),xs[j]?=some u->w.cell? (b.add j)=some u
def aHd.At(e:aHd α)(w:World)(F:Nat->Prop)(l:List α)(v:Value):Prop:=∃p c,v=.slice p l.length c/\l.length<=c/\(l≠[]->∃b xs,p=some b/\F b.block/\e.Cs w F l xs/\qb w b xs)
def aHd.Out(e:aHd α)(w:World)(B:Nat)(t:TypeId)(l:List α)(v:Value):Prop:=∃p c xs,v=.slice p l.length c/\aS w B t e.sz v l.length xs/\e.Cs w (λk=>B<=k/\k<w.heap.size/\v.ownBlock≠some k) l xs
section
variable{e:aHd α}{F G:Nat->Prop}
def aHd.Cs.len:∀{l:List α} {xs:List Value},e.Cs w F l xs->xs.length=l.length*e.sz
 |[],xs,h=>by rw[show xs=[]from h,cq,cq,F2]
 |x::r,xs,⟨cs,ys,h1,h2,h3⟩=>by rw[h1,aHb,e.len h2,aHd.Cs.len h3,a_,Nat.succ_mul];omega
def aHd.Cs.one:∀{l:List α} {xs:List Value},e.Cs w F l xs->∀u∈xs,u.oneCell'=true
 |[],xs,h=>by rw[show xs=[]from h];simp
 |x::r,xs,⟨cs,ys,h1,h2,h3⟩=>by
  intro u hu;rw[h1]at hu;rcases mE.1 hu with hu|hu
  .exact e.one h2 u hu
  .exact aHd.Cs.one h3 u hu
def aHd.Cs.dO{w':World}(hF:∀k,F k->G k)(hw:∀a v,(∃k,F k/\a.block=k)->w.cell? a=some v->w'.cell? a=some v):∀{l:List α} {xs:List Value},e.Cs w F l xs->e.Cs w' G l xs
 |[],xs,h=>h
 |x::r,xs,⟨cs,ys,h1,h2,h3⟩=>⟨cs,ys,h1,e.dO hF hw h2,aHd.Cs.dO hF hw h3⟩
def aHd.Cs.append:∀{l m:List α} {xs ys:List Value},e.Cs w F l xs->e.Cs w F m ys->e.Cs w F (l++m) (xs++ys)
 |[],m,xs,ys,h,k=>by rw[show xs=[]from h];exact k
 |x::r,m,xs,ys,⟨cs,zs,h1,h2,h3⟩,k=>⟨cs,zs++ys,by rw[h1,j9],h2,aHd.Cs.append h3 k⟩
def aHd.Cs.single{x:α}{cs:List Value}(h:e.E w F x cs):e.Cs w F [x] cs:=⟨cs,[],(aIk _).symm,h,rfl⟩
def aHd.Cs.get:∀{l:List α} {xs:List Value} {i:Nat} {x:α},e.Cs w F l xs->l[i]?=some x->∃cs,e.E w F x cs/\∀(j:Nat) (u:Value),cs[j]?=some u->xs[i*e.sz+j]?=some u
 |y::r,xs,0,x,⟨cs,ys,h1,h2,h3⟩,hx=>by obtain rfl:=bO hx;refine⟨cs,h2,λj u hu=>?_⟩;rw[h1,F2,cL,wX (iw.1 hu).1];exact hu
 |y::r,xs,i+1,x,⟨cs,ys,h1,h2,h3⟩,hx=>by obtain⟨cs',g1,g2⟩:=aHd.Cs.get (i:=i) h3 (by simpa using hx);refine⟨cs',g1,λj u hu=>?_⟩;have hl:=e.len h2;rw[h1,Nat.succ_mul,zx (by omega),hl,show i*e.sz+e.sz+j-e.sz=i*e.sz+j by omega];exact g2 j u hu
def qb.still{w':World}{b:Addr}{xs:List Value}(h:qb w b xs)(hm:Still w w'):qb w' b xs:=λj u hu=>hm.cell (h j u hu)
def qb.row{g:Nat}{t:TypeId}{xs:List Value}(h:Row w g t ⟨xs⟩):qb w ⟨g,0,none⟩ xs:=λj u hu=>by rw[bM,cL];exact h.ai hu
def aHd.At.dO{w':World}(hF:∀k,F k->G k)(hw:∀a v,(∃k,F k/\a.block=k)->w.cell? a=some v->w'.cell? a=some v){l:List α}{v:Value}(h:e.At w F l v):e.At w' G l v:=by obtain⟨p,c,rfl,h2,h3⟩:=h;refine⟨p,c,rfl,h2,λhl=>?_⟩;obtain⟨b,xs,rfl,h4,h5,h6⟩:=h3 hl;exact⟨b,xs,rfl,hF _ h4,h5.dO hF hw,λj u hu=>hw _ _ ⟨_,h4,DK b j⟩ (h6 j u hu)⟩
def aHd.At.mono(hF:∀k,F k->G k){l:List α}{v:Value}(h:e.At w F l v):e.At w G l v:=h.dO hF λ_ _ _ h=>h
def aHd.At.any{l:List α}{v:Value}(h:e.At w F l v):e.At w (λ_=>True) l v:=h.mono λ_ _=>trivial
def aHd.At.mod{S:Nat->Prop}{w':World}{l:List α}{v:Value}(h:e.At w F l v)(hm:Mod S w w')(hS:∀k,F k->¬S k):e.At w' F l v:=
 h.dO (λ_ h=>h) λa v ⟨k,hk,ea⟩ hc=>vQ hm (by rw[ea];exact hS k hk) hc
def aHd.At.still{w':World}{l:List α}{v:Value}(h:e.At w F l v)(hm:Still w w'):e.At w' F l v:=h.mod hm λ_ _ h=>h
def aHd.At.nil(e:aHd α)(w:World)(F:Nat->Prop)(p:Option Addr)(c:Nat):e.At w F [] (.slice p 0 c):=⟨p,c,rfl,dU _,λh=>absurd rfl h⟩
def aHd.At.form{l:List α}{v:Value}(h:e.At w F l v):∃p c,v=.slice p l.length c:=by obtain⟨p,c,he,_⟩:=h;exact⟨p,c,he⟩
def aHd.At.one{l:List α}{v:Value}(h:e.At w F l v):v.oneCell'=true:=by obtain⟨p,c,rfl,_⟩:=h;rfl
def aHd.At.len{l:List α}{p:Option Addr}{n c:Nat}(h:e.At w F l (.slice p n c)):n=l.length/\l.length<=c:=by obtain⟨p',c',he,h2,_⟩:=h;injection he with e1 e2 e3;subst e3;exact⟨e2,h2⟩
def aHd.At.get{l:List α}{p:Option Addr}{n c:Nat}(h:e.At w F l (.slice p n c)){i:Nat}{x:α}(hx:l[i]?=some x):∃b cs,p=some b/\F b.block/\e.E w F x cs/\qb w (b.add (i*e.sz)) cs:=by
 obtain⟨p',c',he,h2,h3⟩:=h;injection he with e1 e2 e3;subst e1 e2 e3;have hl:l≠[]:=by rintro rfl;cases hx
 obtain⟨b,xs,rfl,h4,h5,h6⟩:=h3 hl;obtain⟨cs,g1,g2⟩:=h5.get hx;refine⟨b,cs,rfl,h4,g1,λj u hu=>?_⟩;rw[sx];exact h6 _ u (g2 j u hu)
def aHd.At.tail{x:α}{r:List α}{a:Addr}{n c:Nat}(h:e.At w F (x::r) (.slice (some a) n c)):e.At w F r (.slice (some (a.add e.sz)) (n-1) (c-1)):=by obtain⟨p',c',he,h2,h3⟩:=h;injection he with e1 e2 e3;subst e1 e2 e3;obtain⟨b,xs,hb,h4,⟨cs,ys,h5,h6,h7⟩,h8⟩:=h3 (by simp);obtain rfl:=bO hb;refine⟨some (a.add e.sz),c-1,by rw[a_,P3],by simp only[a_]at h2;omega,λ_=>⟨_,ys,rfl,by rw[DK];exact h4,h7,λj u hu=>?_⟩⟩;rw[sx];refine h8 _ u ?_;have hl:=e.len h6;rw[h5,zx (by omega),show e.sz+j-cs.length=j by omega];exact hu
def aHd.At.ptr{x:α}{r:List α}{p:Option Addr}{n c:Nat}(h:e.At w F (x::r) (.slice p n c)):∃a,p=some a:=by obtain⟨b,_,hb,_⟩:=h.get (i:=0) rfl;exact⟨b,hb⟩
def aHd.At.row{g c:Nat}{t:TypeId}{l:List α}{xs:List Value}(hr:Row w g t ⟨xs⟩)(hc:e.Cs w F l xs)(hF:F g)(hl:l.length<=c):e.At w F l (.slice (some ⟨g,0,none⟩) l.length c):=
 ⟨_,c,rfl,hl,λ_=>⟨_,xs,rfl,hF,hc,qb.row hr⟩⟩
def aHd.Out.nil(e:aHd α)(w:World)(B:Nat)(t:TypeId):e.Out w B t [] (.slice none 0 0):=⟨none,0,[],rfl,aS.nil _ _ _ _,rfl⟩
def aHd.Out.form{B:Nat}{t:TypeId}{l:List α}{v:Value}(h:e.Out w B t l v):∃p c,v=.slice p l.length c:=by obtain⟨p,c,_,he,_⟩:=h;exact⟨p,c,he⟩
def aHd.Out.at{B:Nat}{t:TypeId}{l:List α}{v:Value}(h:e.Out w B t l v)(hz:0<e.sz):e.At w (λk=>B<=k/\k<w.heap.size) l v:=by obtain⟨p,c,xs,rfl,ho,hc⟩:=h;obtain⟨p',c',he,hle⟩:=ho.cap;injection he with _ _ e3;subst e3;refine⟨p,c,rfl,hle,λhl=>?_⟩;have hn:0<l.length:=nj.2 hl;obtain⟨g,cap,he,hB,hg,_,hcell⟩:=ho.aKl hn;injection he with e1 e2 e3;subst e1;refine⟨_,xs,rfl,⟨hB,hg⟩,hc.dO (λk hk=>⟨hk.1,hk.2.1⟩) (λ_ _ _ h=>h),λj u hu=>?_⟩;rw[bM,cL];exact hcell j u hu
def aHd.Out.mod{S:Nat->Prop}{w':World}{B:Nat}{t:TypeId}{l:List α}{v:Value}(h:e.Out w B t l v)(hm:Mod S w w')(hS:∀k,B<=k->k<w.heap.size->¬S k):e.Out w' B t l v:=by obtain⟨p,c,xs,rfl,ho,hc⟩:=h;refine⟨p,c,xs,rfl,ho.mod hm λk hk=>hS k (ho.lt k hk).1 (ho.lt k hk).2,hc.dO (λk hk=>⟨hk.1,oB hk.2.1 hm.size,hk.2.2⟩) λa v ⟨k,hk,ea⟩ hcell=>vQ hm (by rw[ea];exact hS k hk.1 hk.2.1) hcell⟩
def aHd.Out.still{w':World}{B:Nat}{t:TypeId}{l:List α}{v:Value}(h:e.Out w B t l v)(hm:Still w w'):e.Out w' B t l v:=h.mod hm λ_ _ _ h=>h
def aHd.Out.low{B B':Nat}{t:TypeId}{l:List α}{v:Value}(h:e.Out w B t l v)(hB:B'<=B):e.Out w B' t l v:=by obtain⟨p,c,xs,rfl,ho,hc⟩:=h;exact⟨p,c,xs,rfl,ho.base λk hk=>kf hB (ho.lt k hk).1,hc.dO (λk hk=>⟨kf hB hk.1,hk.2⟩) λ_ _ _ h=>h⟩
def aHd.Out.push{B bytes:Nat}{t:TypeId}{l:List α}{p:Option Addr}{n c:Nat}{x:α}{cs:List Value}{K:Option Addr->Nat->World->Prop}(ho:e.Out w B t l (.slice p n c))(hB:B<=w.heap.size)
  (hx:e.E w (λk=>B<=k/\k<w.heap.size/\(Value.slice p n c).ownBlock≠some k) x cs)(hs:n+1<=9223372036854775807)(hb:(n+1)*bytes<=140737488355328)
  (h:∀p' c' w',e.Out w' B t (l++[x]) (.slice p' (n+1) c')->Mod (λk=>(Value.slice p n c).ownBlock=some k) w w'->K p' c' w'):
  cP (w.alloc (.cells ⟨cs⟩ t)) (λw2=>eW w2 t e.sz bytes p n c (some (Addr.mk w.heap.size 0 none)) 1 K):=by
 obtain⟨p0,c0,xs,he,ho,hc⟩:=ho;injection he with e1 e2 e3;subst e1 e2 e3;have hl:=e.len hx;refine aO λw1 hr hst hz=>?_;refine rT (ho.still hst) (by omega) cs (by omega) (e.one hx) (λ_=>⟨_,rfl,λj u hu=>?_⟩) hs hb λp' c' w' ho' hm hk=>h p' c' w' ?_ (Mod.trans hst hm (λ_ h=>h.elim) (λ_ _ h=>h))
 .rw[bM,cL]
  exact hr.dh (by simpa using hu)
 .have hz':=hm.size
  refine⟨p',c',xs++cs,by rw[aHb];rfl,by rw[aHb];exact ho',?_⟩;have hn:∀k,k<w.heap.size->(Value.slice p l.length c).ownBlock≠some k->(Value.slice p' (l.length+1) c').ownBlock≠some k:=by
   intro k hkl hne hk';rcases hk.own (n:=l.length)with hk|hk
   .exact hne (hk.symm.trans hk')
   .rw[hk']at hk
    have:=bO hk;omega
  refine(hc.append (aHd.Cs.single hx)).dO (λk hk=>⟨hk.1,by omega,hn k hk.2.1 hk.2.2⟩) λa v ⟨k,hk,ea⟩ hcell=>vQ hm (by rw[ea];exact hk.2.2) (hst.cell hcell)
end
end Go.Proofs.YtihaaoehhgmphaaGreatDoor.L
namespace Go.Proofs.YtihaaoehhgmphaaGreatDoor.L
open IntKind
inductive Nd where
 |mk(k:Int)(neg:Bool)(nm:ag)(ws:List (List Pt))(aHv:List (ag×List Pt))(rs:List (ag×List Pt))(os:List ag)(ks:List Nd)
namespace Nd
def k:Nd->Int
 |.mk k _ _ _ _ _ _ _=>k
def neg:Nd->Bool
 |.mk _ x _ _ _ _ _ _=>x
def nm:Nd->ag
 |.mk _ _ x _ _ _ _ _=>x
def ws:Nd->List (List Pt)
 |.mk _ _ _ x _ _ _ _=>x
def aHv:Nd->List (ag×List Pt)
 |.mk _ _ _ _ x _ _ _=>x
def rs:Nd->List (ag×List Pt)
 |.mk _ _ _ _ _ x _ _=>x
def os:Nd->List ag
 |.mk _ _ _ _ _ _ x _=>x
def ks:Nd->List Nd
 |.mk _ _ _ _ _ _ _ x=>x
end Nd
abbrev Ts:=List (Nat×ag)
abbrev Pr(α:Type):=Ts->Rs (α×Ts)
def many{σ α:Type}(step:σ->Ts->Rs ((σ×Ts)⊕(α×Ts))):Nat->σ->Pr α
 |0,_,_=>.bad 0
 |n+1,a,s=>(step a s).and λx=>match x with
  |.inl y=>many step n y.1 y.2
  |.inr y=>.ok y
def Ap{σ α:Type}(step:σ->Ts->Rs ((σ×Ts)⊕(α×Ts))):Prop:=∀a s x,step a s=.ok x->match x with
 |.inl y=>y.2.length<s.length
 |.inr y=>y.2.length<=s.length
def lF{σ α:Type}(step:σ->Ts->Rs ((σ×Ts)⊕(α×Ts)))(a:σ):Pr α:=λs=>many step (s.length+1) a s
def abI{σ α:Type}{step:σ->Ts->Rs ((σ×Ts)⊕(α×Ts))}(hs:Ap step):∀(n m:Nat) (a:σ) (s:Ts),s.length<n->s.length<m->many step n a s=many step m a s
 |0,_,_,_,h,_=>by omega
 |_,0,_,_,_,h=>by omega
 |n+1,m+1,a,s,h1,h2=>by
  simp only[many];cases h:step a s with
  |bad e=>rfl
  |ok x=>
   have h3:=hs _ _ _ h;cases x with
   |inr y=>rfl
   |inl y=>have h3:y.2.length<s.length:=h3;exact abI hs n m y.1 y.2 (by omega) (by omega)
def rR{σ α:Type}{step:σ->Ts->Rs ((σ×Ts)⊕(α×Ts))}(hs:Ap step)(a:σ)(s:Ts):lF step a s=(step a s).and λx=>match x with
  |.inl y=>lF step y.1 y.2
  |.inr y=>.ok y:=by
 show((step a s).and λx=>match x with
  |.inl y=>many step s.length y.1 y.2
  |.inr y=>.ok y)=_
 cases h:step a s with
 |bad e=>rfl
 |ok x=>
  have h3:=hs _ _ _ h;cases x with
  |inr y=>rfl
  |inl y=>have h3:y.2.length<s.length:=h3;exact abI hs _ _ y.1 y.2 (by omega) (by omega)
def UU{α:Type}(f:Pr α):Prop:=∀s x,f s=.ok x->x.2.length<=s.length
def lV{α:Type}(f:Pr α):Prop:=∀s x,f s=.ok x->x.2.length<s.length
def abJ{σ α:Type}{step:σ->Ts->Rs ((σ×Ts)⊕(α×Ts))}(hs:Ap step):∀(n:Nat) (a:σ) (s:Ts) (x:α×Ts),many step n a s=.ok x->x.2.length<=s.length
 |0,_,_,_,h=>by cases h
 |n+1,a,s,x,h=>by
  simp only[many]at h;obtain⟨y,h1,h⟩:=Rs.fh h;have h3:=hs _ _ _ h1;cases y with
  |inr y=>injection h with h;subst h;exact h3
  |inl y=>have h3:y.2.length<s.length:=h3;have:=abJ hs n _ _ _ h;omega
def K2{σ α:Type}{step:σ->Ts->Rs ((σ×Ts)⊕(α×Ts))}(hs:Ap step)(a:σ):UU (lF step a):=λs x h=>abJ hs _ a s x h
def cV(k:Nat)(t:ag)(s:Ts):Bool:=decide (s.head?=some (k,t))
def IC:Ts->Bool
 |(k,_)::_=>decide (k=0)
 |[]=>false
def Ec:Nat×ag:=(2,[10])
def fG:Ts->Ts
 |[]=>[]
 |x::r=>if x=Ec then fG r else x::r
abbrev nX:ag:=[59]
abbrev Hl:ag:=[59,59]
abbrev Ut:ag:=[40]
abbrev Hz:ag:=[41]
abbrev afu:ag:=[124]
abbrev UW:ag:=[38,38]
abbrev V6:ag:=[124,124]
abbrev afv:ag:=[60]
abbrev aJn:ag:=[62]
abbrev aeO:ag:=[62,62]
abbrev tu:ag:=[33]
abbrev aeP:ag:=[123]
abbrev aeQ:ag:=[125]
abbrev tIf:ag:=[105,102]
abbrev afw:ag:=[116,104,101,110]
abbrev afx:ag:=[101,108,105,102]
abbrev afy:ag:=[101,108,115,101]
abbrev tFi:ag:=[102,105]
abbrev tO:ag:=[100,111]
abbrev jR:ag:=[100,111,110,101]
abbrev afz:ag:=[101,115,97,99]
abbrev aeR:ag:=[119,104,105,108,101]
abbrev aeS:ag:=[117,110,116,105,108]
abbrev aJr:ag:=[102,111,114]
abbrev rB:ag:=[105,110]
abbrev afA:ag:=[99,97,115,101]
def yj:List ag:=[afw,afx,afy,tFi,tO,jR,afz,aeQ]
def Aq:Ts->Bool
 |[]=>true
 |(k,t)::_=>(decide (k=1)&&(decide (t=Hz)||decide (t=Hl)))||(decide (k=0)&&yj.contains t)
def isName(t:ag):Bool:=decide (t≠[]/\bT t=t.length)
def nr:Pr (List Pt)
 |(k,t)::r=>if k=0 then(aHz 30 t).and λl=>.ok (l,r)else .bad 100
 |[]=>.bad 100
def th(s:Ts):Bool:=cV 1 afv s||cV 1 aJn s||cV 1 aeO s
def aIG:Pr (ag×List Pt)
 |(_,op)::r=>(nr r).and λx=>.ok ((op,x.1),x.2)
 |[]=>.bad 100
def uW(t:ag):Option (ag×ag):=if 0<bT t/\t[bT t]?=some 61 then some (t.take (bT t),t.drop (bT t+1))else none
def mH(a:List (List Pt)×List (ag×List Pt)×List (ag×List Pt))(s:Ts):Rs (((List (List Pt)×List (ag×List Pt)×List (ag×List Pt))×Ts)⊕(Nd×Ts)):=
 if th s=true then(aIG s).and λx=>.ok (.inl ((a.1,a.2.1,a.2.2++[x.1]),x.2))
 else match s with
 |(k,t)::r=>
  if k=0 then match(if a.1=[]then uW t else none)with
   |some y=>(aHz 30 y.2).and λl=>.ok (.inl ((a.1,a.2.1++[(y.1,l)],a.2.2),r))
   |none=>(aHz 30 t).and λl=>.ok (.inl ((a.1++[l],a.2.1,a.2.2),r))
  else if a.1.length+a.2.1.length+a.2.2.length=0 then .bad 100 else .ok (.inr (.mk 0 false [] a.1 a.2.1 a.2.2 [] [],(k,t)::r))
 |[]=>if a.1.length+a.2.1.length+a.2.2.length=0 then .bad 100 else .ok (.inr (.mk 0 false [] a.1 a.2.1 a.2.2 [] [],[]))
def pE:Pr Nd:=lF mH ([],[],[])
def Mw(neg:Bool):List Nd->Nd
 |[k]=>if neg=true then .mk 1 true [] [] [] [] [] [k]else k
 |ks=>.mk 1 neg [] [] [] [] [] ks
def tv(cmd:Pr Nd)(neg:Bool)(ks:List Nd)(s:Ts):Rs ((List Nd×Ts)⊕(Nd×Ts)):=
 if cV 1 afu s=true then(cmd (fG s.tail)).and λx=>.ok (.inl (ks++[x.1],x.2))else .ok (.inr (Mw neg ks,s))
def B8(cmd:Pr Nd):Pr Nd:=λs=>
 (cmd (if cV 0 tu s=true then s.tail else s)).and λx=>lF (tv cmd (cV 0 tu s)) [x.1] x.2
def aJs(cmd:Pr Nd):Pr Nd:=B8 cmd
def nv(ks:List Nd):Nd:=.mk 3 false [] [] [] [] [] ks
def oO(cmd:Pr Nd)(ks:List Nd)(s:Ts):Rs ((List Nd×Ts)⊕(Nd×Ts)):=
 if Aq s=true then .ok (.inr (nv ks,s))
 else(aJs cmd s).and λx=>
  if cV 1 nX x.2=true then .ok (.inl (ks++[x.1],fG x.2.tail))
  else if cV 2 [10] x.2=true then .ok (.inl (ks++[x.1],fG x.2))
  else .ok (.inr (nv (ks++[x.1]),x.2))
def uM(cmd:Pr Nd):Pr Nd:=λs=>lF (oO cmd) [] (fG s)
def B9(cmd:Pr Nd):Pr Nd:=λs=>(uM cmd s).and λx=>if x.1.ks=[]then .bad 100 else .ok x
def aJo(k:Nat)(t:ag)(x:Nd×Ts):Rs (Nd×Ts):=if cV k t x.2=true then .ok (x.1,x.2.tail)else .bad 100
def q_(cmd:Pr Nd):Pr Nd:=λs=>if cV 0 tO s=true then(B9 cmd s.tail).and λx=>aJo 0 jR x else .bad 100
def qg(acc:List (List Pt))(s:Ts):Rs ((List (List Pt)×Ts)⊕(List (List Pt)×Ts)):=
 if IC s=true then(nr s).and λx=>.ok (.inl (acc++[x.1],x.2))else .ok (.inr (acc,s))
def uN(cmd:Pr Nd)(nm:ag)(ws:List (List Pt))(os:List ag):Pr Nd:=λs=>
 (q_ cmd (fG (if cV 1 nX s=true then s.tail else s))).and λb=>.ok (.mk 8 false nm ws [] [] os [b.1],b.2)
def oP(cmd:Pr Nd):Pr Nd
 |(k,t)::r=>
  if k=0/\isName t=true then
   if cV 0 rB (fG r)=true then(lF qg [] (fG r).tail).and λx=>if cV 1 nX x.2=true\/cV 2 [10] x.2=true then uN cmd t x.1 [rB] x.2 else .bad 100
   else uN cmd t [] [] (fG r)
  else .bad 100
 |[]=>.bad 100
def Ar:List (Nat×ag):=[(1,Ut),(0,aeP),(0,tIf),(0,aeR),(0,aeS),(0,afA),(0,tu),(1,UW),(1,V6)]++[afw,afx,afy,tFi,afz,aeQ].map λt=>(0,t)
def pP(cmd:Pr Nd):Pr Nd:=λs=>if cV 0 aJr s=true then oP cmd s.tail else if(cV 0 tO s||cV 0 jR s)=true then .bad 100 else pE s
def dB:Nat->Pr Nd×Unit
 |0=>(λ_=>.bad 2,())
 |L+1=>(pP (dB L).1,())
def DU(s:Ts):Rs Nd:=(uM (dB 30).1 s).and λx=>if x.2=[]then .ok x.1 else .bad 100
def aI9:∀s:Ts,(fG s).length<=s.length
 |[]=>aR _
 |x::r=>by
  have:=aI9 r;simp only[fG];split
  .simp only[a_];omega
  .exact aR _
def DP{k:Nat}{t:ag}{s:Ts}(h:cV k t s=true):s=(k,t)::s.tail:=by
 have h:=aQ h;cases s with
 |nil=>cases h
 |cons a r=>rw[bO h];rfl
def GV{k:Nat}{t:ag}{s:Ts}(h:cV k t s=true):s.tail.length+1=s.length:=by rw[DP h];rfl
def BN(s:Ts):s.tail.length<=s.length:=by rw[List.length_tail];omega
def KU:lV nr:=by
 intro s x h
 match s with
 |[]=>cases h
 |(k,t)::r=>
  simp only[nr]at h;split at h
  .obtain⟨l,_,h⟩:=Rs.fh h
   injection h with h;subst h;exact lB _
  .cases h
def Z1:lV aIG:=by
 intro s x h
 match s with
 |[]=>cases h
 |(k,t)::r=>simp only[aIG]at h;obtain⟨l,h1,h⟩:=Rs.fh h;injection h with h;subst h;have:=KU _ _ h1;simp only[a_];omega
def aJ9:Ap mH:=by
 intro a s x h;unfold mH at h;split at h
 .obtain⟨l,h1,h⟩:=Rs.fh h
  injection h with h;subst h;exact Z1 _ _ h1
 .split at h
  .split at h
   .split at h<;>(obtain⟨l,h1,h⟩:=Rs.fh h;injection h with h;subst h;exact lB _)
   .split at h
    .cases h
    .injection h with h
     subst h;exact aR _
  .split at h
   .cases h
   .injection h with h
    subst h;exact aR _
def aoK:lV pE:=by
 intro s x h;unfold pE at h;rw[rR aJ9]at h;obtain⟨y,h1,h⟩:=Rs.fh h;have h2:=aJ9 _ _ _ h1;cases y with
 |inl y=>have h2:y.2.length<s.length:=h2;have:=K2 aJ9 _ _ _ h;omega
 |inr y=>
  exfalso;unfold mH at h1;split at h1
  .obtain⟨l,_,h1⟩:=Rs.fh h1
   cases h1
  .split at h1
   .split at h1
    .split at h1<;>(obtain⟨l,_,h1⟩:=Rs.fh h1;cases h1)
    .simp at h1
   .simp at h1
def RJ{cmd:Pr Nd}(hc:lV cmd)(neg:Bool):Ap (tv cmd neg):=by
 intro a s x h;unfold tv at h;split at h
 .rename_i hp
  obtain⟨l,h1,h⟩:=Rs.fh h;injection h with h;subst h;have h2:=hc _ _ h1;have h3:=aI9 s.tail;have h4:=GV hp;show l.2.length<s.length
  omega
 .injection h with h
  subst h;exact aR _
def aqF{cmd:Pr Nd}(hc:lV cmd):lV (B8 cmd):=by intro s x h;obtain⟨y,h1,h⟩:=Rs.fh h;have h2:=hc _ _ h1;have h3:=K2 (RJ hc _) _ _ _ h;have h4:=BN s;split at h2<;>omega
def abK{cmd:Pr Nd}(hc:lV cmd):lV (aJs cmd):=aqF hc
def DD{cmd:Pr Nd}(hc:lV cmd):Ap (oO cmd):=by
 intro a s x h;unfold oO at h;split at h
 .injection h with h
  subst h;exact aR _
 .obtain⟨y,h1,h⟩:=Rs.fh h
  have h2:=abK hc _ _ h1;have h3:=aI9 y.2;have h4:=aI9 y.2.tail;have h5:=BN y.2;split at h
  .injection h with h
   subst h;show(fG y.2.tail).length<_
   omega
  .split at h
   .injection h with h
    subst h;show(fG y.2).length<_
    omega
   .injection h with h
    subst h;exact Kr h2
def aqG{cmd:Pr Nd}(hc:lV cmd):UU (uM cmd):=by intro s x h;have h1:=K2 (DD hc) _ _ _ h;have:=aI9 s;omega
def aqH{cmd:Pr Nd}(hc:lV cmd):UU (B9 cmd):=by
 intro s x h;obtain⟨y,h1,h⟩:=Rs.fh h;split at h
 .cases h
 .injection h with h
  subst h;exact aqG hc _ _ h1
def aqI{k:Nat}{t:ag}{x y:Nd×Ts}(h:aJo k t x=.ok y):y.2.length<x.2.length/\y.1=x.1:=by
 unfold aJo at h;split at h
 .rename_i hp
  injection h with h;subst h;have:=GV hp;exact⟨by dsimp only;omega,rfl⟩
 .cases h
def aqJ{cmd:Pr Nd}(hc:lV cmd):lV (q_ cmd):=by
 intro s x h;unfold q_ at h;split at h
 .rename_i hp
  obtain⟨y,h1,h⟩:=Rs.fh h;have h2:=aqH hc _ _ h1;have h3:=(aqI h).1;have h4:=BN s;omega
 .cases h
def Zz:Ap qg:=by
 intro a s x h;unfold qg at h;split at h
 .obtain⟨l,h1,h⟩:=Rs.fh h
  injection h with h;subst h;exact KU _ _ h1
 .injection h with h
  subst h;exact aR _
def aaI{cmd:Pr Nd}(hc:lV cmd)(nm:ag)(ws:List (List Pt))(os:List ag):lV (uN cmd nm ws os):=by intro s x h;obtain⟨b,h2,h⟩:=Rs.fh h;injection h with h;subst h;have g2:=aqJ hc _ _ h2;have g3:=aI9 (if cV 1 nX s=true then s.tail else s);have g4:=BN s;dsimp only;split at g3<;>simp_all<;>omega
def aqK{cmd:Pr Nd}(hc:lV cmd):lV (oP cmd):=by
 intro s x h
 match s with
 |[]=>cases h
 |(k,t)::r=>
  have g1:=aI9 r;have g2:=BN (fG r);simp only[oP]at h;split at h
  .split at h
   .obtain⟨y,h1,h⟩:=Rs.fh h
    have g3:=K2 Zz _ _ _ h1;split at h
    .have g4:=aaI hc _ _ _ _ _ h
     simp only[a_];omega
    .cases h
   .have g4:=aaI hc _ _ _ _ _ h
    simp only[a_];omega
  .cases h
def Sk{cmd:Pr Nd}(hc:lV cmd):lV (pP cmd):=by
 intro s x h;unfold pP at h;split at h
 .have:=aqK hc _ _ h
  have:=BN s;omega
 .split at h
  .cases h
  .exact aoK _ _ h
def aKi:∀L:Nat,lV (dB L).1/\True
 |0=>⟨λs x h=>(by cases h),trivial⟩
 |L+1=>⟨Sk (aKi L).1,trivial⟩
end Go.Proofs.YtihaaoehhgmphaaGreatDoor.L
namespace Go.Proofs.YtihaaoehhgmphaaGreatDoor.L
open IntKind Go.RowKit Vc
variable{w:World}
def wE:aHd (List Pt)where
 sz:=1
 E:=λw F x cs=>∃v,cs=[v]/\aHg w F x v
 len:=by rintro w F x cs ⟨v,rfl,_⟩;rfl
 one:=by rintro w F x cs ⟨v,rfl,h⟩ u hu;rw[jb.1 hu];exact h.one
 dO:=by rintro w w' F G x cs hF hw ⟨v,rfl,h⟩;exact⟨v,rfl,h.dO hF hw⟩
def aIb:aHd (ag×List Pt)where
 sz:=2
 E:=λw F x cs=>∃v,cs=[.string (S x.1),v]/\aHg w F x.2 v
 len:=by rintro w F x cs ⟨v,rfl,_⟩;rfl
 one:=by
  rintro w F x cs ⟨v,rfl,h⟩ u hu;simp only[gE,ug,uh]at hu;rcases hu with rfl|rfl;·rfl
  .exact h.one
 dO:=by rintro w w' F G x cs hF hw ⟨v,rfl,h⟩;exact⟨v,rfl,h.dO hF hw⟩
def EO:aHd ag where
 sz:=1
 E:=λ_ _ x cs=>cs=[.string (S x)]
 len:=by rintro w F x cs rfl;rfl
 one:=by rintro w F x cs rfl u hu;rw[jb.1 hu];rfl
 dO:=by rintro w w' F G x cs _ _ rfl;rfl
def V7:aHd (Nat×ag)where
 sz:=2
 E:=λ_ _ x cs=>cs=[.int .i64 (x.1:Int),.string (S x.2)]
 len:=by rintro w F x cs rfl;rfl
 one:=by rintro w F x cs rfl u hu;simp only[gE,ug,uh]at hu;rcases hu with rfl|rfl<;>rfl
 dO:=by rintro w w' F G x cs _ _ rfl;rfl
mutual
def dR(w:World)(F:Nat->Prop):Nd->List Value->Prop
 |.mk k neg nm ws aHv rs os ks,cs=>∃vw va vr vo p c,cs=[.int .i64 k,.bool neg,.string (S nm),vw,va,vr,vo,.slice p ks.length c]/\wE.At w F ws vw/\aIb.At w F aHv va/\aIb.At w F rs vr/\EO.At w F os vo/\ks.length<=c/\
   (ks≠[]->∃b xs,p=some b/\F b.block/\tG w F ks xs/\qb w b xs)
def tG(w:World)(F:Nat->Prop):List Nd->List Value->Prop
 |[],xs=>xs=[]
 |x::r,xs=>∃cs ys,xs=cs++ys/\dR w F x cs/\tG w F r ys
end
mutual
def dR.dO{F G:Nat->Prop}{w':World}(hF:∀k,F k->G k)(hw:∀a v,(∃k,F k/\a.block=k)->w.cell? a=some v->w'.cell? a=some v):∀{x:Nd} {cs:List Value},dR w F x cs->dR w' G x cs
 |.mk k neg nm ws aHv rs os ks,cs,h=>by simp only[dR]at h⊢;obtain⟨vw,va,vr,vo,p,c,h1,h2,h3,h4,h5,h6,h7⟩:=h;refine⟨vw,va,vr,vo,p,c,h1,h2.dO hF hw,h3.dO hF hw,h4.dO hF hw,h5.dO hF hw,h6,λhl=>?_⟩;obtain⟨b,xs,hb,h8,h9,h10⟩:=h7 hl;exact⟨b,xs,hb,hF _ h8,tG.dO hF hw h9,λj u hu=>hw _ _ ⟨_,h8,DK b j⟩ (h10 j u hu)⟩
def tG.dO{F G:Nat->Prop}{w':World}(hF:∀k,F k->G k)(hw:∀a v,(∃k,F k/\a.block=k)->w.cell? a=some v->w'.cell? a=some v):∀{l:List Nd} {xs:List Value},tG w F l xs->tG w' G l xs
 |[],xs,h=>by simp only[tG]at h⊢;exact h
 |x::r,xs,h=>by simp only[tG]at h⊢;obtain⟨cs,ys,h1,h2,h3⟩:=h;exact⟨cs,ys,h1,dR.dO hF hw h2,tG.dO hF hw h3⟩
end
def dR.raw{F:Nat->Prop}{x:Nd}{cs:List Value}(h:dR w F x cs):∃vw va vr vo vk,cs=[.int .i64 x.k,.bool x.neg,.string (S x.nm),vw,va,vr,vo,vk]/\vw.oneCell'=true/\va.oneCell'=true/\vr.oneCell'=true/\vo.oneCell'=true/\vk.oneCell'=true:=by
 cases x with
 |mk k neg nm ws aHv rs os ks=>simp only[dR]at h;obtain⟨vw,va,vr,vo,p,c,h1,h2,h3,h4,h5,_⟩:=h;exact⟨vw,va,vr,vo,_,h1,h2.one,h3.one,h4.one,h5.one,rfl⟩
def vf:aHd Nd where
 sz:=8
 E:=dR
 len:=by intro w F x cs h;obtain⟨vw,va,vr,vo,vk,rfl,_⟩:=h.raw;rfl
 one:=by intro w F x cs h u hu;obtain⟨vw,va,vr,vo,vk,rfl,h1,h2,h3,h4,h5⟩:=h.raw;simp only[gE,ug,uh]at hu;rcases hu with rfl|rfl|rfl|rfl|rfl|rfl|rfl|rfl<;>first|rfl|assumption
 dO:=λhF hw h=>h.dO hF hw
def MZ{F:Nat->Prop}:∀{l:List Nd} {xs:List Value},tG w F l xs↔vf.Cs w F l xs
 |[],xs=>by simp only[tG];exact Iff.rfl
 |x::r,xs=>by
  simp only[tG];constructor
  .rintro⟨cs,ys,h1,h2,h3⟩
   exact⟨cs,ys,h1,h2,MZ.1 h3⟩
  .rintro⟨cs,ys,h1,h2,h3⟩
   exact⟨cs,ys,h1,h2,MZ.2 h3⟩
abbrev jg(x:Nd)(vw va vr vo vk:Value):List Value:=[.int .i64 x.k,.bool x.neg,.string (S x.nm),vw,va,vr,vo,vk]
def dR.of{F:Nat->Prop}{x:Nd}{vw va vr vo vk:Value}(h1:wE.At w F x.ws vw)(h2:aIb.At w F x.aHv va)(h3:aIb.At w F x.rs vr)(h4:EO.At w F x.os vo)(h5:vf.At w F x.ks vk):dR w F x (jg x vw va vr vo vk):=by
 cases x with
 |mk k neg nm ws aHv rs os ks=>obtain⟨p,c,rfl,h6,h7⟩:=h5;simp only[dR];refine⟨vw,va,vr,vo,p,c,rfl,h1,h2,h3,h4,h6,λhl=>?_⟩;obtain⟨b,xs,h8,h9,h10,h11⟩:=h7 hl;exact⟨b,xs,h8,h9,MZ.2 h10,h11⟩
def dR.out{F:Nat->Prop}{x:Nd}{cs:List Value}(h:dR w F x cs):∃vw va vr vo vk,cs=jg x vw va vr vo vk/\wE.At w F x.ws vw/\aIb.At w F x.aHv va/\aIb.At w F x.rs vr/\EO.At w F x.os vo/\vf.At w F x.ks vk:=by
 cases x with
 |mk k neg nm ws aHv rs os ks=>simp only[dR]at h;obtain⟨vw,va,vr,vo,p,c,h1,h2,h3,h4,h5,h6,h7⟩:=h;refine⟨vw,va,vr,vo,_,h1,h2,h3,h4,h5,p,c,rfl,h6,λhl=>?_⟩;obtain⟨b,xs,h8,h9,h10,h11⟩:=h7 hl;exact⟨b,xs,h8,h9,MZ.1 h10,h11⟩
def dR.outs{F:Nat->Prop}{x:Nd}{cs:List Value}(h:dR w F x cs):∃pw cw pa ca pr cr po co pk ck,cs=jg x (.slice pw x.ws.length cw) (.slice pa x.aHv.length ca) (.slice pr x.rs.length cr) (.slice po x.os.length co) (.slice pk x.ks.length ck)/\
  wE.At w F x.ws (.slice pw x.ws.length cw)/\aIb.At w F x.aHv (.slice pa x.aHv.length ca)/\aIb.At w F x.rs (.slice pr x.rs.length cr)/\EO.At w F x.os (.slice po x.os.length co)/\vf.At w F x.ks (.slice pk x.ks.length ck):=by
 obtain⟨vw,va,vr,vo,vk,rfl,h1,h2,h3,h4,h5⟩:=h.out;obtain⟨pw,cw,rfl⟩:=h1.form;obtain⟨pa,ca,rfl⟩:=h2.form;obtain⟨pr,cr,rfl⟩:=h3.form;obtain⟨po,co,rfl⟩:=h4.form;obtain⟨pk,ck,rfl⟩:=h5.form;exact⟨pw,cw,pa,ca,pr,cr,po,co,pk,ck,rfl,h1,h2,h3,h4,h5⟩
def dR.mono{F G:Nat->Prop}{x:Nd}{cs:List Value}(hF:∀k,F k->G k)(h:dR w F x cs):dR w G x cs:=h.dO hF λ_ _ _ h=>h
def dR.mod{F S:Nat->Prop}{w':World}{x:Nd}{cs:List Value}(h:dR w F x cs)(hm:Mod S w w')(hS:∀k,F k->¬S k):dR w' F x cs:=
 h.dO (λ_ h=>h) λa v ⟨k,hk,ea⟩ hc=>vQ hm (by rw[ea];exact hS k hk) hc
def dR.still{F:Nat->Prop}{w':World}{x:Nd}{cs:List Value}(h:dR w F x cs)(hm:Still w w'):dR w' F x cs:=h.mod hm λ_ _ h=>h
end Go.Proofs.YtihaaoehhgmphaaGreatDoor.L
namespace Go.Proofs.YtihaaoehhgmphaaGreatDoor
open IntKind Go.RowKit Vc
variable{w:World}{T g o B:Nat}{cs:List Value}{v:Value}{bs:List UInt8}
def aqL(hr:Row w g T ⟨cs⟩)(hlt:o+1<cs.length):an Pk #[.pointer (some ⟨g,o,none⟩)] w
  (λe w'=>e=.returned (.tuple #[])/\aHt w' T g o B ((cs.set o (.pointer none)).set (o+1) (.slice none 0 0)) (.slice none 0 0) []/\Mod (λk=>k=g) w w'):=by
 apply ajP;refine dL hr (by simp;omega) (by simp[Value.oneCell']) λw1 cy dX hz1=>?_;show cA (Addr.add _ 1) _ _ _ _
 rw[bM];refine dL cy (by simp[fF];omega) (by simp[Value.oneCell']) λw2 hr2 hm2 gU=>⟨rfl,aHt.fresh hr2 ?_ ?_,Mod.trans dX hm2 (λ_ h=>h) (λ_ _ h=>h)⟩
 .show((cs.set o _).set (o+1) _)[o]?=_
  rw[rN (by omega),sX (by omega)]
 .exact sX (by simp;omega)
end Go.Proofs.YtihaaoehhgmphaaGreatDoor
namespace Go.Proofs.YtihaaoehhgmphaaGreatDoor
open IntKind Go.RowKit Vc
set_option maxRecDepth 100000
variable{w:World}
def HU(l:List (ag×Value)):List KV:=l.map λx=>(.string (S x.1),x.2)
def aH8(w:World)(g:Nat)(l:List (ag×Value)):Prop:=dH w g (HU l)/\∀x∈l,x.1.length<=1000
def aH8.new(w:World):aH8 (w.alloc (.map #[] 0)) w.heap.size []:=⟨dH.new w,λx hx=>by cases hx⟩
def aH8.mod{S:Nat->Prop}{w':World}{g:Nat}{l:List (ag×Value)}(h:aH8 w g l)(hm:Mod S w w')(hg:¬S g):aH8 w' g l:=⟨h.1.mod hm hg,h.2⟩
def Tw{l:List (ag×Value)}(h:∀x∈l,x.1.length<=1000):∀p∈HU l,∃lk,keyOf aL bJ p.1=some lk:=λp hp=>by obtain⟨x,hx,rfl⟩:=dM.1 hp;exact⟨_,rZ rfl (qW (h x hx))⟩
def de{T te:TypeId}(hT:Tryz.prog.underlying T=some (.map bJ te)){g:Nat}{l:List (ag×Value)}(h:aH8 w g l){k:ag}{v:Value}(hk:k.length<=1000)(hn:(l.all λx=>!decide (x.1=k))=true){K:World->Prop}
  (hK:∀w',aH8 w' g (l++[(k,v)])->Mod (λi=>i=g) w w'->w'.heap.size=w.heap.size->K w'):dN aL T (.map (some g)) (.string (S k)) v w K:=by
 obtain⟨w',h1,h2,h3,h4⟩:=L9 vU hT h.1 (rZ rfl (qW hk)) (Tw h.2) (λp hp e=>by obtain⟨x,hx,rfl⟩:=dM.1 hp;have:=nO.1 hn x hx;simp[str_inj e]at this) v;refine⟨w',h1,hK w' ⟨by simpa[HU]using h2,λx hx=>?_⟩ h3 h4⟩;rcases mE.1 hx with hx|hx
 .exact h.2 x hx
 .obtain rfl:=jb.1 hx
  exact hk
def Ud{T te:TypeId}(hT:Tryz.prog.underlying T=some (.map bJ te)){z:Value}(hz:∀w,(zeroValue te).run aL w=.ok z w){g:Nat}{l:List (ag×Value)}(h:aH8 w g l){k:ag}{v:Value}(hv:(k,v)∈l){K:Value->Bool->Prop}(hK:K v true):x_ aL T (.map (some g)) (.string (S k)) w K:=by
 rcases DO vU hT (hz w) h.1 (rZ rfl (qW (h.2 _ hv))) (Tw h.2) true with⟨v',h1,h2⟩|⟨h1,_⟩
 .have nd:((HU l).map Prod.fst).Nodup:=by
   obtain⟨ms,c,_,hG⟩:=h.1;exact hG.nodup
  have e:v'=v:=by
   have m2:(Value.string (S k),v)∈HU l:=dM.2 ⟨_,hv,rfl⟩;have key:∀(es:List KV),(es.map Prod.fst).Nodup->∀{a b c:Value},(a,b)∈es->(a,c)∈es->b=c:=by
    intro es
    induction es with
    |nil=>intro _ a b c h;cases h
    |cons x r ih=>
     intro nd a b c h1 h2;rw[gi,FM]at nd;rcases gE.1 h1 with e1|h1
     .rcases gE.1 h2 with e2|h2
      .exact(aJB (e1.trans e2.symm)).2
      .exact absurd (dM.2 ⟨_,h2,by rw[<-e1]⟩) nd.1
     .rcases gE.1 h2 with e2|h2
      .exact absurd (dM.2 ⟨_,h1,by rw[<-e2]⟩) nd.1
      .exact ih nd.2 h1 h2
   exact key _ nd h1 m2
  subst e;exact⟨_,true,h2,hK⟩
 .exact absurd rfl (h1 (.string (S k),v) (dM.2 ⟨_,hv,rfl⟩))
def adU{T te:TypeId}(hT:Tryz.prog.underlying T=some (.map bJ te)){z:Value}(hz:∀w,(zeroValue te).run aL w=.ok z w){g:Nat}{l:List (ag×Value)}(h:aH8 w g l){k:ag}(hk:k.length<=1000)(hn:(l.all λx=>!decide (x.1=k))=true){K:Value->Bool->Prop}(hK:K z false):x_ aL T (.map (some g)) (.string (S k)) w K:=by
 rcases DO vU hT (hz w) h.1 (rZ rfl (qW hk)) (Tw h.2) true with⟨v',h1,_⟩|⟨_,h2⟩
 .obtain⟨x,hx,e⟩:=dM.1 h1
  have:=nO.1 hn x hx;simp[str_inj (aJB e).1]at this
 .exact⟨_,false,h2,hK⟩
end Go.Proofs.YtihaaoehhgmphaaGreatDoor
namespace Go.Proofs.YtihaaoehhgmphaaGreatDoor.P
open IntKind Go.RowKit Vc
abbrev sy:=UInt8->Bool
structure Pc where
 star:Bool
 set:sy
def single:List UInt8->UInt8×List UInt8
 |[]=>(0,[])
 |[a]=>(a,[])
 |a::b::r=>if a=92 then(b,r)else(a,b::r)
def yD(S:sy)(lo hi:UInt8):sy:=λc=>S c||(decide (lo.toNat<=c.toNat)&&decide (c.toNat<=hi.toNat))
def dash(lo:UInt8)(s:List UInt8):UInt8×List UInt8:=match s with
 |a::c::r=>if a=45/\c≠93 then single (c::r)else(lo,s)
 |_=>(lo,s)
def ax1(s:List UInt8)(first:Bool):Bool:=match s with
 |[]=>false
 |a::_=>first||decide (a≠93)
def agp:Nat->List UInt8->Bool->sy->sy×List UInt8
 |0,s,_,S=>(S,s)
 |n+1,s,first,S=>if ax1 s first=true then agp n (dash (single s).1 (single s).2).2 false (yD S (single s).1 (dash (single s).1 (single s).2).1)else(S,s)
def Ue:List UInt8->List UInt8×Bool
 |[]=>([],false)
 |a::r=>if a=33 then(r,true)else(a::r,false)
def mkSet(s:List UInt8):Option (sy×List UInt8):=
 match agp ((Ue s).1.length+1) (Ue s).1 true (λ_=>false)with
 |(_,[])=>none
 |(S,_::r)=>some (λc=>S c !=(Ue s).2,r)
def afB(p:List UInt8):sy×List UInt8:=match p with
 |[]=>(λ_=>false,[])
 |a::r=>if a=63 then(λ_=>true,r)else if a=91 then(match mkSet r with
  |some x=>x
  |none=>(λc=>decide (c=91),r))else(λc=>decide (c=(single (a::r)).1),(single (a::r)).2)
def pieces:Nat->List UInt8->List Pc
 |0,_=>[]
 |_+1,[]=>[]
 |n+1,a::r=>if a=42 then⟨true,λ_=>false⟩::pieces n r else⟨false,(afB (a::r)).1⟩::pieces n (afB (a::r)).2
def V8(p:List UInt8):List Pc:=pieces p.length p
def plain:List UInt8->List UInt8
 |[]=>[]
 |[a]=>[a]
 |a::b::r=>if a=92 then b::plain r else a::plain (b::r)
def aKw(a:UInt8):Bool:=a==42||a==63||a==91
def oF:List UInt8->Bool
 |[]=>false
 |[a]=>aKw a
 |a::b::r=>if aKw a then true else if a=92 then oF r else oF (b::r)
def escape(s:List UInt8):List UInt8:=s.flatMap λc=>[92,c]
def Zl{p:List UInt8}(h:p≠[]):(single p).2.length<p.length:=by
 match p,h with
 |[a],_=>simp[single]
 |a::b::r,_=>simp only[single];split<;>simp<;>omega
def aqM{p:List UInt8}(h:p≠[]):plain p=(single p).1::plain (single p).2:=by
 match p,h with
 |[a],_=>rfl
 |a::b::r,_=>simp only[plain,single];split<;>rfl
def aoL(a:UInt8)(r:List UInt8):oF (a::r)=(aKw a||oF (single (a::r)).2):=by
 cases r with
 |nil=>simp[oF,single]
 |cons b r=>
  simp only[oF,single];cases h:aKw a
  .simp only[l9,jq,aJA];split<;>rfl
  .simp
def Ry:∀(p:List UInt8),(plain p).length<=p.length
 |[]=>aR _
 |[a]=>aR _
 |a::b::r=>by have h1:=Ry r;have h2:=Ry (b::r);simp only[plain];simp only[a_]at h2⊢;split<;>simp<;>omega
end Go.Proofs.YtihaaoehhgmphaaGreatDoor.P
namespace Go.Proofs.YtihaaoehhgmphaaGreatDoor
open IntKind Go.RowKit Vc
variable{w:World}
def Row.at{w:World}{g:Nat}{t:TypeId}{cs:List Value}(h:Row w g t ⟨cs⟩){k:Nat}{v:Value}(hv:cs[k]?=some v):w.cell? ((Addr.mk g 0 none).add (k*1))=some v:=by rw[bM,cL,aHA];exact h.dh (by simpa using hv)
def Row.aJR{w:World}{g:Nat}{t:TypeId}{cs:List Value}(h:Row w g t ⟨cs⟩){k:Nat}{v:Value}(hv:cs[k]?=some v):w.cell? ((Addr.mk g 0 none).add k)=some v:=by rw[bM,cL];exact h.dh (by simpa using hv)
def Row.Ck{w:World}{g:Nat}{t:TypeId}{cs:List Value}(h:Row w g t ⟨cs⟩){k:Nat}(hk:k<cs.length):Wr w ((Addr.mk g 0 none).add (k*1)):=by rw[bM,cL,aHA];exact h.wr _ (by simpa using hk)
def Row.setAt{w:World}{g:Nat}{t:TypeId}{cs:List Value}(h:Row w g t ⟨cs⟩)(k:Nat)(u:Value):Row (w.setCell ((Addr.mk g 0 none).add (k*1)) u) g t ⟨cs.set k u⟩:=by rw[bM,cL,aHA];exact h.aHE _ _
def Row.HA{w:World}{g p:Nat}{t:TypeId}{cs:Array Value}(h:Row w g t cs)(hne:g≠p)(k:Nat)(u:Value):Row (w.setCell ((Addr.mk p 0 none).add (k*1)) u) g t cs:=by rw[bM,cL,aHA];exact h.far hne _
def Mod.setAt{S:Nat->Prop}{a b:World}(h:Mod S a b){p:Nat}(hp:S p\/a.heap.size<=p)(k:Nat)(u:Value):Mod S a (b.setCell ((Addr.mk p 0 none).add (k*1)) u):=by rw[bM,cL,aHA];exact h.setCell hp _
def Mx:Value->Bool
 |.int .u32 _=>true
 |_=>false
structure Ws(n:Nat)(l:List Value):Prop where
 len:l.length=n
 all:l.all Mx=true
def pV{v:Value}(h:Mx v=true):∃x:Int,v=.int .u32 x:=by
 unfold Mx at h;split at h
 .exact⟨_,rfl⟩
 .cases h
def Ws.get{n k:Nat}{l:List Value}(h:Ws n l)(hk:k<n):∃x:Int,l[k]?=some (.int .u32 x):=by
 have hk':k<l.length:=by rw[h.len];exact hk
 obtain⟨x,hx⟩:=pV (nO.1 h.all _ (kL hk'));exact⟨x,by rw[iy hk',hx]⟩
def Ws.set{n:Nat}{l:List Value}(h:Ws n l)(k:Nat)(x:Int):Ws n (l.set k (.int .u32 x)):=⟨by rw[zG];exact h.len,nO.2 λv hv=>by
 rcases List.mem_or_eq_of_mem_set hv with hv|rfl
 .exact nO.1 h.all v hv
 ·rfl⟩
def Ws.one{n:Nat}{l:List Value}(h:Ws n l):∀v∈l,v.oneCell'=true:=λv hv=>by obtain⟨x,rfl⟩:=pV (nO.1 h.all v hv);rfl
def Ws.eight{l:List Value}(h:Ws 8 l):∃s0 s1 s2 s3 s4 s5 s6 s7:Int,l=[.int .u32 s0,.int .u32 s1,.int .u32 s2,.int .u32 s3,.int .u32 s4,.int .u32 s5,.int .u32 s6,.int .u32 s7]:=by
 obtain⟨hl,ha⟩:=h
 match l,hl,ha with
 |[v0,v1,v2,v3,v4,v5,v6,v7],_,ha=>simp only[FY,List.all_nil,e_]at ha;obtain⟨h0,h1,h2,h3,h4,h5,h6,h7,_⟩:=ha;obtain⟨s0,rfl⟩:=pV h0;obtain⟨s1,rfl⟩:=pV h1;obtain⟨s2,rfl⟩:=pV h2;obtain⟨s3,rfl⟩:=pV h3;obtain⟨s4,rfl⟩:=pV h4;obtain⟨s5,rfl⟩:=pV h5;obtain⟨s6,rfl⟩:=pV h6;obtain⟨s7,rfl⟩:=pV h7;exact⟨_,_,_,_,_,_,_,_,rfl⟩
def Ws.zero(n:Nat):Ws n (List.replicate n (.int .u32 0)):=⟨Po,by simp[Mx]⟩
def asw:∀n:Fin 32,n.val≠0->bits .and .u64 (u64.wrap (i64.wrap (0-(n.val:Int)))) 31=((32-n.val:Nat):Int):=by decide
def vJ(x:Int)(n:Nat)(h0:n≠0)(h1:n<32):an aIX #[.int .u32 x,.int .i64 (n:Int)] w (λe w'=>(∃y:Int,e=.returned (.int .u32 y))/\w'=w):=by
 apply amg;have hr:=asw ⟨n,h1⟩ h0;dsimp only at hr;have hw:u64.wrap (32-((32-n:Nat):Int))=((n:Nat):Int):=by rw[wrap_u64 (by omega) (by omega)];omega
 refine Calls.mono (ajD _ _ _ (λe w'=>(∃y:Int,e=.returned (.int .u32 y))/\w'=w) ?_) ?_
 .unfold XJ
  simp only[hr,hw];exact⟨by omega,by omega,⟨_,rfl⟩,rfl⟩
 .rintro _ w' ⟨⟨y,rfl⟩,rfl⟩
  exact .inl ⟨_,rfl,⟨_,rfl⟩,rfl⟩
def asx(b:List UInt8)(h:4<=b.length):an Re #[.string (S b)] w (λe w'=>(∃y:Int,e=.returned (.int .u32 y))/\w'=w.drew):=by
 apply amR
 match b,h with
 |b0::b1::b2::b3::r,_=>exact⟨by decide,b0,rfl,by decide,by decide,b1,rfl,by decide,by decide,b2,rfl,by decide,by decide,b3,rfl,⟨_,rfl⟩,rfl⟩
def aqN(b:List UInt8)(hb:b.length=64):an Q4 #[.string (S b)] w (λe w'=>(∃l,Ws 64 l/\e=.returned (.agg ⟨l⟩))/\Still w w'):=by
 apply amB;refine⟨λx w1=>∃(i:Nat) (l:List Value),x=(i:Int)/\i<=64/\Ws 64 l/\Row w1 w.heap.size 474 ⟨l⟩/\Still w w1,λx _=>(64-x).toNat,⟨0,_,rfl,by decide,Ws.zero 64,Row.new _ _ _,(Mod.refl _ _).alloc _⟩,?_⟩;rintro _ _ w1 ⟨i,l,rfl,hi,hl,hr,hm⟩;have w1e:i64.wrap ((i:Int)+1)=((i+1:Nat):Int):=wI;refine ax (λhx=>?_) (λhx=>?_)
 .have hx:=aQ hx
  have hx':i<64:=by omega
  refine ax (λaHT=>?_) (λaHT=>?_)
  .have aHT:=aQ aHT
   have w4:i64.wrap (4*(i:Int))=((4*i:Nat):Int):=wI;rw[w4,bW];refine⟨by omega,by omega,(asx _ (by simp;omega)).mono ?_⟩;rintro _ w2 ⟨⟨y,rfl⟩,rfl⟩;refine .inl ⟨_,rfl,by omega,by omega,?_⟩;rw[w1e,bW];exact⟨hr.drew.Ck (by rw[hl.len];omega),⟨i+1,_,rfl,by omega,hl.set i y,hr.drew.setAt _ _,hm.drew.setAt (.inr (aR _)) _ _⟩,by dsimp only;omega⟩
  .have aHT:=aZ aHT
   have e15:i64.wrap ((i:Int)-15)=((i-15:Nat):Int):=wI;have e2:i64.wrap ((i:Int)-2)=((i-2:Nat):Int):=wI;have e16:i64.wrap ((i:Int)-16)=((i-16:Nat):Int):=wI;have e7:i64.wrap ((i:Int)-7)=((i-7:Nat):Int):=wI;obtain⟨x1,g1⟩:=hl.get (k:=i-15) (by omega);obtain⟨x2,g2⟩:=hl.get (k:=i-2) (by omega);obtain⟨x3,g3⟩:=hl.get (k:=i-16) (by omega);obtain⟨x4,g4⟩:=hl.get (k:=i-7) (by omega);simp only[e15,e2,e16,e7,w1e,bW];refine⟨by omega,by omega,_,hr.at g1,by omega,by omega,_,hr.at g2,λwq=>Row wq w.heap.size 474 ⟨l⟩,hr.drew.drew,by omega,by omega,_,λwq hq=>hq.at g3,by omega,by omega,_,λwq hq=>hq.at g4,by decide,by decide,?_⟩;refine(vJ _ 7 (by decide) (by decide)).mono ?_;rintro _ _ ⟨⟨y1,rfl⟩,rfl⟩;refine .inl ⟨_,rfl,hr.drew.drew,(vJ _ 18 (by decide) (by decide)).mono ?_⟩;rintro _ _ ⟨⟨y2,rfl⟩,rfl⟩;refine .inl ⟨_,rfl,hr.drew.drew,(vJ _ 17 (by decide) (by decide)).mono ?_⟩;rintro _ _ ⟨⟨y3,rfl⟩,rfl⟩;refine .inl ⟨_,rfl,hr.drew.drew,(vJ _ 19 (by decide) (by decide)).mono ?_⟩;rintro _ _ ⟨⟨y4,rfl⟩,rfl⟩;exact .inl ⟨_,rfl,hr.drew.drew,by omega,by omega,hr.drew.drew.Ck (by rw[hl.len];omega),⟨i+1,_,rfl,by omega,hl.set i _,hr.drew.drew.setAt _ _,hm.drew.drew.setAt (.inr (aR _)) _ _⟩,by omega⟩
 .have hs:=hl.len
  refine⟨l,hs,λj u hu=>?_,hs,hl.one,w.heap.size,0,l,474,rfl,hr,by simp,l,hs,λj u hu=>?_,⟨l,hl,rfl⟩,hm.setRow (.inr (aR _)) _⟩
  .rw[bM,cL]
   exact hr.dh (by simpa using hu)
  .rw[bM,cL]
   exact(hr.setRow _ (by simp)).dh (by simpa using hu)
def asy{vs:List Value}(h:Ws 64 vs){R:Ending->World->Prop}(hR:∀w',Still w w'->R (.returned (.agg ⟨vs⟩)) w'):
  vs.length=64/\(∀v∈vs,v.oneCell'=true)/\∃(g o:Nat) (cur:List Value) (ty:TypeId),Addr.mk w.heap.size 0 none=Addr.mk g o none/\Row (w.alloc (.cells ⟨List.replicate 64 (.int .u32 0)⟩ 474)) g ty ⟨cur⟩/\o+vs.length<=cur.length/\
   ∃v:List Value,v.length=64/\(∀(j:Nat) (u:Value),v[j]?=some u->((w.alloc (.cells ⟨List.replicate 64 (.int .u32 0)⟩ 474)).setRow g ⟨cur.take o++(vs++cur.drop (o+vs.length))⟩).cell? ((Addr.mk w.heap.size 0 none).add j)=some u)/\
    R (.returned (.agg ⟨v⟩)) ((w.alloc (.cells ⟨List.replicate 64 (.int .u32 0)⟩ 474)).setRow g ⟨cur.take o++(vs++cur.drop (o+vs.length))⟩):=by
 have hl:=h.len;refine⟨hl,h.one,w.heap.size,0,List.replicate 64 (.int .u32 0),474,rfl,Row.new _ _ _,by simp[hl],vs,hl,?_,hR _ (((Mod.refl _ _).alloc _).setRow (.inr (aR _)) _)⟩;intro j u hu;have hr:=(Row.new w 474 ⟨List.replicate 64 (.int .u32 0)⟩).setRow ⟨(List.replicate 64 (Value.int .u32 0)).take 0++(vs++(List.replicate 64 (Value.int .u32 0)).drop (0+vs.length))⟩ (by simp[hl]);refine hr.aJR ?_;have hj:j<vs.length:=(iw.1 hu).1;simp[wX hj,hu]
def aqO:an Q3 #[] w (λe w'=>(∃l,Ws 64 l/\e=.returned (.agg ⟨l⟩))/\Still w w'):=by apply amA;have h:Ws 64 AT:=⟨by kernel_rfl,by kernel_rfl⟩;unfold Y0;exact asy (w:=w) (R:=λe w'=>(∃l,Ws 64 l/\e=.returned (.agg ⟨l⟩))/\Still w w') h λw' hw=>⟨⟨_,h,rfl⟩,hw⟩
def ay0(n:Int):∃b:UInt8,u8.wrap n=(b.toNat:Int):=by refine⟨UInt8.ofNat (n%256).toNat,?_⟩;simp only[IntKind.wrap,IntKind.signed,IntKind.bits,UInt8.toNat_ofNat'];simp;omega
def aoM{n:Nat}(hn:n<1000000000000):an QJ #[.int .i64 (n:Int)] w (λe w'=>(∃s:List UInt8,s.length=(119-n%64)%64+9/\e=.returned (.string (S s)))/\Still w w'):=by
 apply alY;have h1:Int.tmod (n:Int) 64=((n%64:Nat):Int):=by rw[OX (by omega)];omega
 have h2:i64.wrap (119-((n%64:Nat):Int))=((119-n%64:Nat):Int):=wI;have h3:Int.tmod ((119-n%64:Nat):Int) 64=(((119-n%64)%64:Nat):Int):=by rw[OX (by omega)];omega
 have h4:i64.wrap (1+(((119-n%64)%64:Nat):Int))=(((119-n%64)%64+1:Nat):Int):=wI;have h5:i64.wrap ((((119-n%64)%64+1:Nat):Int)+8)=(((119-n%64)%64+9:Nat):Int):=wI;unfold YC;simp only[h1,h2,h3,h4,h5,bW];have hz:(119-n%64)%64<64:=Dz _ (by decide);generalize(119-n%64)%64=Z at hz;have hmk:madeCells #[(.int .u8 0)] ((Z+9)*1)=⟨bc (List.replicate (Z+9) 0)⟩:=by
  apply kM;apply qO;intro j
  by_cases hj:j<Z+9
  .simp[madeCells,bc,hj,Nat.mod_one]
  .simp[madeCells,bc,hj]
 rw[hmk];have aIB:=Row.new w 5 ⟨bc (List.replicate (Z+9) 0)⟩;refine⟨by decide,by decide,by omega,by omega,by omega,by omega,by omega,by omega,aIB.Ck (k:=0) (by simp),?_⟩;refine⟨λx w1=>∃(i:Nat) (l:List UInt8),x=(i:Int)/\i<=8/\l.length=Z+9/\Row w1 w.heap.size 5 ⟨bc l⟩/\Still w w1,λx _=>(8-x).toNat,⟨0,(List.replicate (Z+9) 0).set 0 128,rfl,by omega,by simp,?_,((Mod.refl _ _).alloc _).setAt (k:=0) (.inr (aR _)) _⟩,?_⟩
 .rw[<-aei]
  exact aIB.setAt 0 _
 rintro _ _ w1 ⟨i,l,rfl,hi,hl,hr,hm⟩;have e1:i64.wrap ((i:Int)+1)=((i+1:Nat):Int):=wI;have e8:i64.wrap (8*(i:Int))=((8*i:Nat):Int):=wI;refine ax (λhx=>?_) (λhx=>⟨_,hr.bytes hl,⟨l,hl,rfl⟩,hm⟩);have hx:=aQ hx;have ea:i64.wrap (((Z+9:Nat):Int)-1)=((Z+8:Nat):Int):=wI;have eb:i64.wrap (((Z+8:Nat):Int)-(i:Int))=((Z+8-i:Nat):Int):=wI;simp only[e1,e8,ea,eb,bW];obtain⟨b,hb⟩:=ay0 (Int.fdiv (i64.wrap ((n:Int)*8)) (2^(min (8*i) i64.bits)));rw[hb];refine⟨by omega,by omega,by omega,hr.Ck (by rw[Gq,hl];omega),⟨i+1,l.set (Z+8-i) b,rfl,by omega,by rw[zG];exact hl,?_,hm.setAt (.inr (aR _)) _ _⟩,by omega⟩;rw[<-aei];exact hr.setAt _ _
def ay1(x:Int):0<=bits .and .u32 x 15/\bits .and .u32 x 15<16:=by
 have h:bits .and .u32 x 15=u32.wrap ((BitVec.ofInt 32 x&&&15#32).toNat:Int):=rfl;have hlt:(BitVec.ofInt 32 x&&&15#32).toNat<16:=by rw[BitVec.toNat_and];exact P4 Nat.and_le_right (by decide)
 rw[h];generalize(BitVec.ofInt 32 x&&&15#32).toNat=m at hlt;simp only[IntKind.wrap,IntKind.signed,IntKind.bits];simp;omega
def Dig(w w1:World)(p:Option Addr)(L C n:Nat):Prop:=∃l:List UInt8,l.length<=n/\aS w1 w.heap.size 5 1 (.slice p L C) L (bc l)/\Still w w1
def anY{s:List Value}(hs:Ws 8 s):an PG #[.agg ⟨s⟩] w (λe w'=>(∃t,e=.returned (.string (S t)))/\Still w w'):=by
 obtain⟨s0,s1,s2,s3,s4,s5,s6,s7,rfl⟩:=hs.eight;apply akm;have hr:=Row.new w 441 ⟨[.int .u32 s0,.int .u32 s1,.int .u32 s2,.int .u32 s3,.int .u32 s4,.int .u32 s5,.int .u32 s6,.int .u32 s7]⟩;refine⟨_,_,_,_,_,_,_,_,hr.dh rfl,hr.dh rfl,hr.dh rfl,hr.dh rfl,hr.dh rfl,hr.dh rfl,hr.dh rfl,hr.dh rfl,?_⟩;refine⟨λp L C x w1=>∃i:Nat,x=(i:Int)/\i<=8/\Dig w w1 p L C (8*i),λ_ _ _ x _=>(8-x).toNat,⟨0,rfl,by omega,[],by simp,aS.nil _ _ _ _,(Mod.refl _ _).alloc _⟩,?_⟩;rintro p L C _ _ w1 ⟨i,rfl,hi,hd⟩;refine ax (λhx=>?_) (λhx=>?_)
 .have hx:=aQ hx
  obtain⟨x,hg⟩:=hs.get (k:=i) (by omega);refine⟨by omega,by omega,x,by rw[bW,aHA];exact hg,?_⟩;refine⟨λp L C k w1=>∃j:Nat,k=28-4*(j:Int)/\j<=8/\Dig w w1 p L C (8*i+j),λ_ _ _ k _=>(k+8).toNat,⟨0,rfl,by omega,hd⟩,?_⟩;rintro p1 L1 C1 _ _ w2 ⟨j,rfl,hj,l,hl,ho,hst⟩;refine ax (λhk=>?_) (λhk=>?_)
  .have hk:=aQ hk
   have e4:i64.wrap (28-4*(j:Int)-4)=28-4*((j+1:Nat):Int):=wI;rw[e4];obtain⟨a0,a1⟩:=ay1 (Int.fdiv x (2^(min (Int.toNat (28-4*(j:Int))) u32.bits)));have hL:=ho.length;rw[Gq]at hL;obtain⟨b,hb⟩:∃b,([48,49,50,51,52,53,54,55,56,57,97,98,99,100,101,102]:List UInt8)[Int.toNat (bits .and .u32 (Int.fdiv x (2^(min (Int.toNat (28-4*(j:Int))) u32.bits))) 15)]?=some b:=⟨_,iy (by show _<16;omega)⟩;refine⟨hk,a0,b,hb,_,[.int .u8 (b.toNat:Int)],(ho.alloc _).aJO,rfl,one_one rfl,av1 _ _ _,by omega,by omega,?_⟩;intro p2 c2 w3 oX hg3 aIr;refine⟨⟨j+1,rfl,by omega,l++[b],by simp;omega,?_,hst.qd ho (aR _) hg3⟩,by dsimp only;omega⟩;have:=ho.qd hst.size oX aIr;rw[Gr];exact this
  .have hk:=aZ hk
   have e1:i64.wrap ((i:Int)+1)=((i+1:Nat):Int):=wI;rw[e1];exact⟨⟨i+1,rfl,by omega,l,by omega,ho,hst⟩,by dsimp only;omega⟩
 .obtain⟨l,_,ho,hst⟩:=hd
  exact⟨_,ho.bytes,⟨_,rfl⟩,hst⟩
abbrev As(w:World)(t:TypeId)(a b c d e f g h:Int):World:=
 ((((((((w.alloc (.cells #[(.int .u32 0),(.int .u32 0),(.int .u32 0),(.int .u32 0),(.int .u32 0),(.int .u32 0),(.int .u32 0),(.int .u32 0)] t)).setCell (Addr.mk w.heap.size 0 none) (.int .u32 a)).setCell (Addr.mk w.heap.size 1 none) (.int .u32 b)).setCell (Addr.mk w.heap.size 2 none) (.int .u32 c)).setCell (Addr.mk w.heap.size 3 none) (.int .u32 d)).setCell (Addr.mk w.heap.size 4 none) (.int .u32 e)).setCell (Addr.mk w.heap.size 5 none) (.int .u32 f)).setCell (Addr.mk w.heap.size 6 none) (.int .u32 g)).setCell (Addr.mk w.heap.size 7 none) (.int .u32 h)
def abL(w:World)(t:TypeId)(a b c d e f g h:Int):Row (As w t a b c d e f g h) w.heap.size t ⟨[.int .u32 a,.int .u32 b,.int .u32 c,.int .u32 d,.int .u32 e,.int .u32 f,.int .u32 g,.int .u32 h]⟩:=
 ((((((((Row.new w t ⟨List.replicate 8 (.int .u32 0)⟩).aHE 0 (.int .u32 a)).aHE 1 (.int .u32 b)).aHE 2 (.int .u32 c)).aHE 3 (.int .u32 d)).aHE 4 (.int .u32 e)).aHE 5 (.int .u32 f)).aHE 6 (.int .u32 g)).aHE 7 (.int .u32 h)
def acL(w:World)(t:TypeId)(a b c d e f g h:Int){Q:World->Prop}(hQ:Q (As w t a b c d e f g h)):
  cP (w.alloc (.cells #[(.int .u32 0),(.int .u32 0),(.int .u32 0),(.int .u32 0),(.int .u32 0),(.int .u32 0),(.int .u32 0),(.int .u32 0)] t)) λy0=>zJ y0 (zA w 0) (.int .u32 a) λy1=>zJ y1 (zA w 1) (.int .u32 b) λy2=>zJ y2 (zA w 2) (.int .u32 c) λy3=>zJ y3 (zA w 3) (.int .u32 d) λy4=>zJ y4 (zA w 4) (.int .u32 e) λy5=>zJ y5 (zA w 5) (.int .u32 f) λy6=>zJ y6 (zA w 6) (.int .u32 g) λy7=>zJ y7 (zA w 7) (.int .u32 h) Q:=by
 have h0:=Row.new w t ⟨List.replicate 8 (.int .u32 0)⟩;have h1:=h0.aHE 0 (.int .u32 a);have h2:=h1.aHE 1 (.int .u32 b);have h3:=h2.aHE 2 (.int .u32 c);have h4:=h3.aHE 3 (.int .u32 d);have h5:=h4.aHE 4 (.int .u32 e);have h6:=h5.aHE 5 (.int .u32 f);have h7:=h6.aHE 6 (.int .u32 g);unfold cP;exact⟨h0.wr 0 (by simp),h1.wr 1 (by simp),h2.wr 2 (by simp),h3.wr 3 (by simp),h4.wr 4 (by simp),h5.wr 5 (by simp),h6.wr 6 (by simp),h7.wr 7 (by simp),hQ⟩
def abM{a0:World}{S:Nat->Prop}(hm:Mod S a0 w)(t:TypeId)(a b c d e f g h:Int):Mod S a0 (As w t a b c d e f g h):=by have hs:=hm.size;exact((((((((hm.alloc _).setCell (.inr hs) _).setCell (.inr hs) _).setCell (.inr hs) _).setCell (.inr hs) _).setCell (.inr hs) _).setCell (.inr hs) _).setCell (.inr hs) _).setCell (.inr hs) _
structure AV(w w1:World)(p q k:Nat)(t:TypeId)(s0 s c:List Value):Prop where
 old:Row w1 p t ⟨s0⟩
 new:Row w1 q 441 ⟨s⟩
 M0:Row w1 k 474 ⟨c⟩
 still:Still w w1
def AV.drew{w w1:World}{p q k:Nat}{t:TypeId}{s0 s c:List Value}(h:AV w w1 p q k t s0 s c):AV w w1.drew p q k t s0 s c:=⟨h.old.drew,h.new.drew,h.M0.drew,h.still.drew⟩
set_option maxHeartbeats 1000000 in
def GD{p:Nat}{t:TypeId}{s:List Value}(hs:Ws 8 s)(hp:Row w p t ⟨s⟩)(b:List UInt8)(hb:b.length=64):
  an Qn #[.pointer (some ⟨p,0,none⟩),.string (S b)] w
   (λe w'=>e=.returned (.tuple #[])/\Mod (λi=>i=p) w w'/\∃s',Ws 8 s'/\Row w' p t ⟨s'⟩):=by
 apply aln;refine aqO.mono ?_;rintro _ w1 ⟨⟨c,hc,rfl⟩,dX⟩;have hp1:=hp.mod dX (λh=>h);have hkl:=hc.len;refine .inl ⟨c,hkl,rfl,hkl,hc.one,w1.heap.size,0,List.replicate 64 (.int .u32 0),474,rfl,Row.new _ _ _,by rw[hkl];simp,?_⟩;have V9:(List.replicate 64 (Value.int .u32 0)).take 0++(c++(List.replicate 64 (Value.int .u32 0)).drop (0+c.length))=c:=by rw[hkl];simp
 rw[V9];have hk2:=(Row.new w1 474 ⟨List.replicate 64 (.int .u32 0)⟩).setRow ⟨c⟩ (by simp[hkl]);have hp2:=(hp1.alloc (.cells ⟨List.replicate 64 (.int .u32 0)⟩ 474)).RP (g':=w1.heap.size) (Dx hp1.lt) ⟨c⟩;have hm2:Still w ((w1.alloc (.cells ⟨List.replicate 64 (.int .u32 0)⟩ 474)).setRow w1.heap.size ⟨c⟩):=(dX.alloc _).setRow (.inr dX.size) _;have hkp:w1.heap.size≠p:=Q7 hp1.lt;have az1:=dX.size;generalize w1.heap.size=k at hk2 hp2 hm2 hkp az1⊢;generalize(w1.alloc (.cells ⟨List.replicate 64 (.int .u32 0)⟩ 474)).setRow k ⟨c⟩=w2 at hk2 hp2 hm2⊢;obtain⟨s0,s1,s2,s3,s4,s5,s6,s7,he⟩:=hs.eight;have oY:=hp2;rw[he]at oY;refine⟨_,_,_,_,_,_,_,_,oY.dh rfl,oY.aJR rfl,oY.aJR rfl,oY.aJR rfl,oY.aJR rfl,oY.aJR rfl,oY.aJR rfl,oY.aJR rfl,?_⟩;clear oY he;refine acL w2 441 s0 s1 s2 s3 s4 s5 s6 s7 ?_;have hr3:AV w (As w2 441 s0 s1 s2 s3 s4 s5 s6 s7) p w2.heap.size k t s [.int .u32 s0,.int .u32 s1,.int .u32 s2,.int .u32 s3,.int .u32 s4,.int .u32 s5,.int .u32 s6,.int .u32 s7] c:=by
  have wF:=Dx hp2.lt;have hkn:=Dx hk2.lt;exact⟨((((((((hp2.alloc _).far wF _).far wF _).far wF _).far wF _).far wF _).far wF _).far wF _).far wF _,abL w2 441 s0 s1 s2 s3 s4 s5 s6 s7,
   ((((((((hk2.alloc _).far hkn _).far hkn _).far hkn _).far hkn _).far hkn _).far hkn _).far hkn _).far hkn _,abM hm2 441 s0 s1 s2 s3 s4 s5 s6 s7⟩
 have ID:w2.heap.size≠p:=Q7 hp2.lt;have NP:w2.heap.size≠k:=Q7 hk2.lt;have hq:=hm2.size;change Calls _ _ _ (As w2 441 s0 s1 s2 s3 s4 s5 s6 s7) _;generalize As w2 441 s0 s1 s2 s3 s4 s5 s6 s7=w3 at hr3⊢;generalize w2.heap.size=q at hr3 ID NP hq⊢;refine(aqN b hb).mono ?_;rintro _ w4 ⟨⟨W,hW,rfl⟩,lY⟩;refine .inl ⟨W,hW.len,rfl,?_⟩;refine⟨λx w5=>∃(i:Nat) (x8:List Value),x=(i:Int)/\i<=64/\Ws 8 x8/\AV w w5 p q k t s x8 c,λx _=>(64-x).toNat,⟨0,_,rfl,by omega,⟨rfl,rfl⟩,hr3.old.mod lY (λh=>h),hr3.new.mod lY (λh=>h),hr3.M0.mod lY (λh=>h),Mod.trans hr3.still lY (λ_ h=>h) (λ_ _ h=>h)⟩,?_⟩;rintro _ _ w5 ⟨i,x8,rfl,hi,NQ,hr⟩;have e1:i64.wrap ((i:Int)+1)=((i+1:Nat):Int):=wI;refine ax (λhx=>?_) (λhx=>?_)
 .have hx:=aQ hx
  have hx':i<64:=by omega
  obtain⟨y,hy⟩:=hW.get hx';obtain⟨z,hz⟩:=hc.get hx';obtain⟨t0,t1,t2,t3,t4,t5,t6,t7,rfl⟩:=NQ.eight;simp only[e1,bW];have h1:=hr.drew.drew;have h2:=h1.drew;have hrd:=h2.drew;refine⟨by omega,by omega,_,by rw[aHA];exact hy,by decide,by decide,_,hr.new.at (k:=4) rfl,by decide,by decide,_,hr.new.at (k:=0) rfl,
   λwq=>AV w wq p q k t s _ c,h1,by decide,by decide,_,λwq hq=>hq.new.at (k:=7) rfl,by decide,by decide,_,λwq hq=>hq.new.at (k:=6) rfl,by decide,by decide,_,λwq hq=>hq.new.at (k:=5) rfl,
   by decide,by decide,_,λwq hq=>hq.new.at (k:=6) rfl,by omega,by omega,_,λwq hq=>hq.M0.at hz,?_⟩
  refine(vJ _ 6 (by decide) (by decide)).mono ?_;rintro _ _ ⟨⟨y1,rfl⟩,rfl⟩;refine .inl ⟨_,rfl,h1,(vJ _ 11 (by decide) (by decide)).mono ?_⟩;rintro _ _ ⟨⟨y2,rfl⟩,rfl⟩;refine .inl ⟨_,rfl,h1,(vJ _ 25 (by decide) (by decide)).mono ?_⟩;rintro _ _ ⟨⟨y3,rfl⟩,rfl⟩;refine .inl ⟨_,rfl,h1,λwq=>AV w wq p q k t s _ c,h2,by decide,by decide,_,λwq hq=>hq.new.at (k:=1) rfl,by decide,by decide,_,λwq hq=>hq.new.at (k:=2) rfl,by decide,by decide,_,λwq hq=>hq.new.at (k:=1) rfl,?_⟩;refine(vJ _ 2 (by decide) (by decide)).mono ?_;rintro _ _ ⟨⟨y4,rfl⟩,rfl⟩;refine .inl ⟨_,rfl,h2,(vJ _ 13 (by decide) (by decide)).mono ?_⟩;rintro _ _ ⟨⟨y5,rfl⟩,rfl⟩;refine .inl ⟨_,rfl,h2,(vJ _ 22 (by decide) (by decide)).mono ?_⟩;rintro _ _ ⟨⟨y6,rfl⟩,rfl⟩;refine .inl ⟨_,rfl,h2,λwq=>AV w wq p q k t s _ c,hrd,by decide,by decide,by decide,by decide,[.int .u32 t0,.int .u32 t1,.int .u32 t2,.int .u32 t3,.int .u32 t4,.int .u32 t5,.int .u32 t6],by simp[Value.oneCell'],⟨rfl,λ_=>⟨_,rfl,?_⟩⟩,.inr ⟨q,1,_,441,?_,hrd.new,aR 8,?_⟩⟩
  .intro j u hu
   have hj:j<7:=(iw.1 hu).1;refine hrd.new.aJR ?_;rw[<-hu]
   match j,hj with
   |0,_=>rfl
   |1,_=>rfl
   |2,_=>rfl
   |3,_=>rfl
   |4,_=>rfl
   |5,_=>rfl
   |6,_=>rfl
  .rw[aH (by decide)]
   rfl
  .have hn:=hrd.new.setRow ⟨[.int .u32 t0,.int .u32 t0,.int .u32 t1,.int .u32 t2,.int .u32 t3,.int .u32 t4,.int .u32 t5,.int .u32 t6]⟩ rfl
   have hw:Ws 8 [.int .u32 t0,.int .u32 t0,.int .u32 t1,.int .u32 t2,.int .u32 t3,.int .u32 t4,.int .u32 t5,.int .u32 t6]:=⟨rfl,rfl⟩;refine⟨by decide,by decide,_,hn.at (k:=4) rfl,?_⟩;exact⟨by decide,by decide,hn.Ck (k:=4) (show 4<8 by decide),by decide,by decide,(hn.setAt 4 _).Ck (k:=0) (show 0<8 by decide),⟨i+1,_,rfl,by omega,(hw.set 4 _).set 0 _,((hrd.old.RP ID.symm _).HA ID.symm 4 _).HA ID.symm 0 _,(hn.setAt 4 _).setAt 0 _,
    ((hrd.M0.RP NP.symm _).HA NP.symm 4 _).HA NP.symm 0 _,((hrd.still.setRow (.inr hq) _).setAt (.inr hq) 4 _).setAt (.inr hq) 0 _⟩,by omega⟩
 .refine⟨λv w6=>∃(j:Nat) (s':List Value),v=(j:Int)/\j<=8/\Ws 8 s'/\Row w6 p t ⟨s'⟩/\Row w6 q 441 ⟨x8⟩/\Mod (λi=>i=p) w w6,λv _=>(8-v).toNat,
   ⟨0,s,rfl,by omega,hs,hr.old,hr.new,hr.still.weaken (λ_ h=>h.elim)⟩,?_⟩
  rintro _ _ w6 ⟨j,s',rfl,hj,hs',ho,hn,hm⟩;have e1:i64.wrap ((j:Int)+1)=((j+1:Nat):Int):=wI;refine ax (λhx=>?_) (λhx=>⟨rfl,hm,s',hs',ho⟩);have hx:=aQ hx;obtain⟨y,hy⟩:=hs'.get (k:=j) (by omega);obtain⟨z,hz⟩:=NQ.get (k:=j) (by omega);simp only[e1,bW];exact⟨λwq=>Row wq p t ⟨s'⟩/\Row wq q 441 ⟨x8⟩,⟨ho.drew,hn.drew⟩,by omega,by omega,_,λwq hq=>hq.1.at hy,by omega,by omega,_,λwq hq=>hq.2.at hz,by omega,by omega,
   ho.drew.Ck (by rw[hs'.len];omega),⟨j+1,_,rfl,by omega,hs'.set j _,ho.drew.setAt _ _,hn.drew.HA ID _ _,hm.drew.setAt (.inl rfl) _ _⟩,by omega⟩
def au2(s:List UInt8)(hs:s.length<1000000):an Rp #[.string (S s)] w (λe w'=>(∃t,e=.returned (.string (S t)))/\Still w w'):=by
 apply ane;refine acL w 441 _ _ _ _ _ _ _ _ ?_;change Calls _ _ _ (As w 441 _ _ _ _ _ _ _ _) _;have aIB:=abL w 441 1779033703 3144134277 1013904242 2773480762 1359893119 2600822924 528734635 1541459225;have hm0:=abM (Mod.refl (λ_=>False) w) 441 1779033703 3144134277 1013904242 2773480762 1359893119 2600822924 528734635 1541459225;generalize As w 441 1779033703 3144134277 1013904242 2773480762 1359893119 2600822924 528734635 1541459225=w0 at aIB hm0⊢;refine(aoM (by omega)).mono ?_;rintro _ w1 ⟨⟨d,hd,rfl⟩,dX⟩;refine .inl ⟨_,rfl,by omega,?_⟩;have hb:∃N,(s++d).length=N*64:=⟨(s++d).length/64,by rw[aHb];omega⟩;obtain⟨N,hb⟩:=hb;refine⟨λt w2=>∃(n:Nat) (st:List Value),t.length=n*64/\Ws 8 st/\Row w2 w.heap.size 441 ⟨st⟩/\Still w w2,λt _=>t.length,⟨N,_,hb,⟨rfl,rfl⟩,aIB.mod dX (λh=>h),Mod.trans hm0 dX (λ_ h=>h) (λ_ _ h=>h)⟩,?_⟩;rintro t _ w2 ⟨n,st,hn,hw,hr,hm⟩;refine ax (λhx=>?_) (λhx=>?_)
 .have hx:t≠[]:=by simpa using hx
  have hl:0<t.length:=nj.2 hx;have e64:Int.toNat 64=64:=rfl;rw[e64];refine⟨by decide,by omega,(GD hw hr (t.take 64) (by simp;omega)).mono ?_⟩;rintro _ w3 ⟨rfl,dx,s',hs',hr3⟩;have hdl:(t.drop 64).length=(n-1)*64:=by rw[j_];omega
  exact .inl ⟨rfl,by decide,by omega,⟨n-1,s',hdl,hs',hr3,Mod.trans hm dx (λ_ h=>h) (λi hi h=>by omega)⟩,by show(t.drop 64).length<t.length;omega⟩
 .obtain⟨s0,s1,s2,s3,s4,s5,s6,s7,rfl⟩:=hw.eight
  refine⟨_,_,_,_,_,_,_,_,hr.dh rfl,hr.dh rfl,hr.dh rfl,hr.dh rfl,hr.dh rfl,hr.dh rfl,hr.dh rfl,hr.dh rfl,(anY hw).mono ?_⟩;rintro _ w3 ⟨⟨y,rfl⟩,dx⟩;exact .inl ⟨_,rfl,⟨_,rfl⟩,Mod.trans hm dx (λ_ h=>h) (λ_ _ h=>h)⟩
end Go.Proofs.YtihaaoehhgmphaaGreatDoor
namespace Go.Proofs.YtihaaoehhgmphaaGreatDoor.L
open IntKind
def j5{α:Type}(f:Pr α):Prop:=∀s x,f s=.ok x->x.2<:+s
def Et{σ α:Type}(step:σ->Ts->Rs ((σ×Ts)⊕(α×Ts))):Prop:=∀a s x,step a s=.ok x->match x with
 |.inl y=>y.2<:+s
 |.inr y=>y.2<:+s
def acM{σ α:Type}{step:σ->Ts->Rs ((σ×Ts)⊕(α×Ts))}(hs:Et step):∀(n:Nat) (a:σ) (s:Ts) (x:α×Ts),many step n a s=.ok x->x.2<:+s
 |0,_,_,_,h=>by cases h
 |n+1,a,s,x,h=>by
  simp only[many]at h;obtain⟨y,h1,h⟩:=Rs.fh h;have h3:=hs _ _ _ h1;cases y with
  |inr y=>injection h with h;subst h;exact h3
  |inl y=>exact(acM hs n _ _ _ h).trans h3
def Gt{σ α:Type}{step:σ->Ts->Rs ((σ×Ts)⊕(α×Ts))}(hs:Et step)(a:σ):j5 (lF step a):=λs x h=>acM hs _ a s x h
def oC:∀s:Ts,fG s<:+s
 |[]=>sZ _
 |x::r=>by
  simp only[fG];split
  .exact(oC r).trans (pe _ _)
  .exact sZ _
def rX(s:Ts):s.tail<:+s:=List.tail_suffix s
def GW(c:Bool)(s:Ts):(if c=true then s.tail else s)<:+s:=by
 split
 .exact rX s
 .exact sZ _
def K3:j5 nr:=by
 intro s x h
 match s with
 |[]=>cases h
 |(k,t)::r=>
  simp only[nr]at h;split at h
  .obtain⟨l,_,h⟩:=Rs.fh h
   injection h with h;subst h;exact pe _ _
  .cases h
def aaJ:j5 aIG:=by
 intro s x h
 match s with
 |[]=>cases h
 |(k,t)::r=>simp only[aIG]at h;obtain⟨l,h1,h⟩:=Rs.fh h;injection h with h;subst h;exact(K3 _ _ h1).trans (pe _ _)
def Z2:Et mH:=by
 intro a s x h;unfold mH at h;split at h
 .obtain⟨l,h1,h⟩:=Rs.fh h
  injection h with h;subst h;exact aaJ _ _ h1
 .split at h
  .split at h
   .split at h<;>(obtain⟨l,h1,h⟩:=Rs.fh h;injection h with h;subst h;exact pe _ _)
   .split at h
    .cases h
    .injection h with h
     subst h;exact sZ _
  .split at h
   .cases h
   .injection h with h
    subst h;exact sZ _
def apx:j5 pE:=Gt Z2 _
def asz{cmd:Pr Nd}(hc:j5 cmd)(neg:Bool):Et (tv cmd neg):=by
 intro a s x h;unfold tv at h;split at h
 .obtain⟨l,h1,h⟩:=Rs.fh h
  injection h with h;subst h;exact(hc _ _ h1).trans ((oC _).trans (rX s))
 .injection h with h
  subst h;exact sZ _
def abN{cmd:Pr Nd}(hc:j5 cmd):j5 (B8 cmd):=by intro s x h;obtain⟨y,h1,h⟩:=Rs.fh h;exact(Gt (asz hc _) _ _ _ h).trans ((hc _ _ h1).trans (GW _ s))
def acN{cmd:Pr Nd}(hc:j5 cmd):j5 (aJs cmd):=abN hc
def asA{cmd:Pr Nd}(hc:j5 cmd):Et (oO cmd):=by
 intro a s x h;unfold oO at h;split at h
 .injection h with h
  subst h;exact sZ _
 .obtain⟨y,h1,h⟩:=Rs.fh h
  have h2:=acN hc _ _ h1;split at h
  .injection h with h
   subst h;exact(oC _).trans ((rX _).trans h2)
  .split at h
   .injection h with h
    subst h;exact(oC _).trans h2
   .injection h with h
    subst h;exact h2
def asB{cmd:Pr Nd}(hc:j5 cmd):j5 (uM cmd):=λs x h=>(Gt (asA hc) _ _ _ h).trans (oC s)
def abO{cmd:Pr Nd}(hc:j5 cmd):j5 (B9 cmd):=by
 intro s x h;obtain⟨y,h1,h⟩:=Rs.fh h;split at h
 .cases h
 .injection h with h
  subst h;exact asB hc _ _ h1
def asC{k:Nat}{t:ag}{x y:Nd×Ts}(h:aJo k t x=.ok y):y.2<:+x.2:=by
 unfold aJo at h;split at h
 .injection h with h
  subst h;exact rX _
 .cases h
def asD{cmd:Pr Nd}(hc:j5 cmd):j5 (q_ cmd):=by
 intro s x h;unfold q_ at h;split at h
 .obtain⟨y,h1,h⟩:=Rs.fh h
  exact(asC h).trans ((abO hc _ _ h1).trans (rX s))
 .cases h
def aaK:Et qg:=by
 intro a s x h;unfold qg at h;split at h
 .obtain⟨l,h1,h⟩:=Rs.fh h
  injection h with h;subst h;exact K3 _ _ h1
 .injection h with h
  subst h;exact sZ _
def abP{cmd:Pr Nd}(hc:j5 cmd)(nm:ag)(ws:List (List Pt))(os:List ag):j5 (uN cmd nm ws os):=by intro s x h;obtain⟨b,h2,h⟩:=Rs.fh h;injection h with h;subst h;exact(asD hc _ _ h2).trans ((oC _).trans (GW _ s))
def asE{cmd:Pr Nd}(hc:j5 cmd):j5 (oP cmd):=by
 intro s x h
 match s with
 |[]=>cases h
 |(k,t)::r=>
  simp only[oP]at h;split at h
  .split at h
   .obtain⟨y,h1,h⟩:=Rs.fh h
    have g:=(Gt aaK _ _ _ h1).trans ((rX _).trans ((oC r).trans (pe (k,t) r)));split at h
    .exact(abP hc _ _ _ _ _ h).trans g
    .cases h
   .exact(abP hc _ _ _ _ _ h).trans ((oC r).trans (pe (k,t) r))
  .cases h
def au3{cmd:Pr Nd}(hc:j5 cmd):j5 (pP cmd):=by
 intro s x h;unfold pP at h;split at h
 .exact(asE hc _ _ h).trans (rX s)
 .split at h
  .cases h
  .exact apx _ _ h
def GX:∀L:Nat,j5 (dB L).1/\True
 |0=>⟨λs x h=>(by cases h),trivial⟩
 |L+1=>⟨au3 (GX L).1,trivial⟩
def TB(s:Ts):Prop:=s.length<=20000/\(∀x∈s,x.2.length<1000000/\x.2≠[]/\x.1<1000/\x∉Ar/\123∉x.2)/\∀r,(0,jR)::r<:+s->th r=false
def TB.qz{s r:Ts}(h:TB s)(hr:r<:+s):TB r:=⟨kf hr.length_le h.1,λx hx=>h.2.1 x (hr.subset hx),λq hq=>h.2.2 q (hq.trans hr)⟩
def TB.head{k:Nat}{t:ag}{r:Ts}(h:TB ((k,t)::r)):t.length<1000000/\t≠[]:=⟨(h.2.1 (k,t) (by simp)).1,(h.2.1 (k,t) (by simp)).2.1⟩
def TB.kind{k:Nat}{t:ag}{r:Ts}(h:TB ((k,t)::r)):k<1000:=(h.2.1 (k,t) (by simp)).2.2.1
def TB.afC{k:Nat}{t:ag}{r:Ts}(h:TB ((k,t)::r)):123∉t:=(h.2.1 (k,t) (by simp)).2.2.2.2
def TB.tail{x:Nat×ag}{r:Ts}(h:TB (x::r)):TB r:=h.qz (pe _ _)
def TB.M1{s:Ts}(h:TB s){k:Nat}{t:ag}(ht:(k,t)∈Ar):cV k t s=false:=by
 cases hx:cV k t s with
 |false=>rfl
 |true=>rw[DP hx]at h;exact absurd ht (h.2.1 _ (by simp)).2.2.2.1
def aqP{x y:Nd×Ts}(h:aJo 0 jR x=.ok y):(0,jR)::y.2=x.2:=by
 unfold aJo at h;split at h
 .rename_i hp
  injection h with h;subst h;exact(DP hp).symm
 .cases h
def aqQ{cmd:Pr Nd}(hc:j5 cmd){s:Ts}{y:Nd×Ts}(h:q_ cmd s=.ok y):(0,jR)::y.2<:+s:=by
 unfold q_ at h;split at h
 .obtain⟨x,h1,h2⟩:=Rs.fh h
  rw[aqP h2];exact(abO hc _ _ h1).trans (rX s)
 .cases h
def aaL{cmd:Pr Nd}(hc:j5 cmd){nm:ag}{ws:List (List Pt)}{os:List ag}{s:Ts}{y:Nd×Ts}(h:uN cmd nm ws os s=.ok y):(0,jR)::y.2<:+s:=by obtain⟨x,h1,h2⟩:=Rs.fh h;injection h2 with h2;subst h2;exact(aqQ hc h1).trans ((oC _).trans (GW _ s))
def aqR{cmd:Pr Nd}(hc:j5 cmd){s:Ts}{y:Nd×Ts}(h:oP cmd s=.ok y):(0,jR)::y.2<:+s:=by
 match s with
 |[]=>cases h
 |(k,t)::r=>
  simp only[oP]at h;split at h
  .split at h
   .obtain⟨x,h1,h2⟩:=Rs.fh h
    split at h2
    .exact(aaL hc h2).trans ((Gt aaK _ _ _ h1).trans ((rX _).trans ((oC r).trans (pe _ _))))
    .cases h2
   .exact(aaL hc h).trans ((oC r).trans (pe _ _))
  .cases h
end Go.Proofs.YtihaaoehhgmphaaGreatDoor.L
namespace Go.Proofs.YtihaaoehhgmphaaGreatDoor.L
open IntKind Go.RowKit Vc
def apy(p q:Addr)(w:World):
  CallsD aL 123 #[.pointer (some p),.pointer (some q)] .returning w λe u' w'=>e=.returned (.tuple #[])/\u'=.returning/\w'=w:=by
 refine callsD_of_wpS Tryz.func123 rfl λc₀ cs hu=>?_;apply wpS_seq;apply wpS_region;simp[wpOpsS,go_sem,recoverD,hu,Tryz.ntmps123,Exit.thenS];apply wpS_seq;apply wpS_region;simp[wpOpsS,go_sem,Tryz.ntmps123,Exit.thenS];refine wpS_cond (t:=false) (by simp[Act.eval,Array.replicate]) ?_;simp only[l9,jq];refine wpS_of_wp (wp_skip ?_);cases c₀;simp_all [bodyPostS,results,Tryz.results123]
def aof(p q:Addr)(n:Int)(w:World)(hp:Wr w p)(hq:Wr (w.drew.setCell p (.slice none 0 0)) q):
  CallsD aL 123 #[.pointer (some p),.pointer (some q)] (.panicking [{v:=.iface 28 (.int .i64 n),recovered:=false}]) w λe u' w'=>e=.returned (.tuple #[])/\settle u'=.returning/\w'=(w.drew.setCell p (.slice none 0 0)).setCell q (.int .i64 n):=by
 refine callsD_of_wpS Tryz.func123 rfl λc₀ cs hu=>?_;apply wpS_seq;apply wpS_region;simp[wpOpsS,go_sem,recoverD,hu,Tryz.ntmps123,Exit.thenS];apply wpS_seq;apply wpS_region;simp[wpOpsS,go_sem,Tryz.ntmps123,Exit.thenS];refine wpS_cond (t:=true) (by simp[Act.eval,Array.replicate]) ?_;simp only[pq];refine wpS_of_wp ?_;have et:(#[Value.pointer (some p),Value.pointer (some q)]++((((Array.replicate 6 undef).setIfInBounds 1 (Value.iface 28 (Value.int i64 n))).setIfInBounds 0 (Value.iface 28 (Value.int i64 n))).setIfInBounds 2 (Value.iface 28 (Value.int i64 n))).setIfInBounds 3 (Value.bool true))=
   ⟨[.pointer (some p),.pointer (some q),.iface 28 (.int .i64 n),.iface 28 (.int .i64 n),.iface 28 (.int .i64 n),.bool true,undef,undef]⟩:=by rfl
 rw[et];refine Gb (P:=aL) (m:=.held) (ds:=[]) (l:=[.pointer (some p),.pointer (some q),.iface 28 (.int .i64 n),.iface 28 (.int .i64 n),.iface 28 (.int .i64 n),.bool true,undef,undef]) (K:=λl' w'=>w'=(w.drew.setCell p (.slice none 0 0)).setCell q (.int .i64 n)) (E:=λ_ _=>False) (Eq.mp (α:=∃Sw:World->Prop,Sw w.drew/\(Wr w.drew p/\Wr (w.drew.setCell p (.slice none 0 0)) q/\(w.drew.setCell p (.slice none 0 0)).setCell q (.int .i64 n)=(w.drew.setCell p (.slice none 0 0)).setCell q (.int .i64 n))/\(Wr w.drew p/\Wr (w.drew.setCell p (.slice none 0 0)) q/\(w.drew.setCell p (.slice none 0 0)).setCell q (.int .i64 n)=(w.drew.setCell p (.slice none 0 0)).setCell q (.int .i64 n))) (by kernel_rfl) ⟨λ_=>True,trivial,⟨hp,hq,rfl⟩,hp,hq,rfl⟩) ?_ ?_
 .rintro l' w' _ rfl
  cases c₀;simp_all [bodyPostS,results,Tryz.results123,act,settle];rfl
 .intro l' c w' _ h
  exact h.elim
def yE(n:Nat)(b:Nat->Bool):Array Bool:=⟨(List.range n).map b⟩
abbrev aHw(b:Nat->Bool)(i:Nat):Nat->Bool:=λj=>if j=i then true else b j
def Gu{n:Nat}{b:Nat->Bool}{j:Nat}{d:Bool}(h:j<n):(yE n b).getD j d=b j:=by simp[yE,Jp,h]
def au4{n i:Nat}{b:Nat->Bool}:(yE n b).setIfInBounds i true=yE n (aHw b i):=by
 apply kM;simp only[yE,Xx];apply qO;intro j;rw[Dl];simp only[ke,List.length_range,vF,aHw]
 by_cases hj:i=j
 .subst hj
  simp only[↓reduceIte]
  by_cases hi:i<n
  .simp[hi]
  .simp[hi]
 .rw[aH hj]
  by_cases hi:j<n
  .simp[hi,Gp hj]
  .simp[hi]
def cnt(b:Nat->Bool):Nat->Nat
 |0=>0
 |n+1=>cnt b n+(!b n).toNat
def adV{b:Nat->Bool}{i:Nat}(hb:b i=false):∀n,i<n->cnt b n=cnt (aHw b i) n+1
 |0,h=>by omega
 |n+1,h=>by
  have off:∀m,m<=i->cnt (aHw b i) m=cnt b m:=by
   intro m
   induction m with
   |zero=>intro _;rfl
   |succ m ih=>intro hm;have e:aHw b i m=b m:=aH (show¬m=i by omega);simp only[cnt,ih (by omega),e]
  simp only[cnt]
  by_cases hn:n=i
  .subst hn
   have e:aHw b n n=true:=aN rfl;rw[off n (aR _),hb,e];rfl
  .rw[adV hb n (by omega)]
   have e:aHw b i n=b n:=aH hn;rw[e];omega
def acO{b:Nat->Bool}:∀n,cnt b n=0->∀j,j<n->b j=true
 |0,_,_,h=>by omega
 |n+1,h,j,hj=>by
  simp only[cnt]at h;have hn:b n=true:=by
   cases hb:b n with
   |true=>rfl
   |false=>rw[hb]at h;simp at h
  rcases Nat.lt_succ_iff_lt_or_eq.1 hj with hj|hj
  .exact acO n (by omega) j hj
  .subst hj
   exact hn
def abQ:∀n,cnt (λ_=>false) n=n
 |0=>rfl
 |n+1=>by simp[cnt,abQ n]
def aqS{P:Program}{ops:Array Oper}{Q:Exit->Act->World->Prop}{n:Nat}(hn:ops.size=n)(I:(Nat->Bool)->Act->World->Prop)
  (hend:∀b a w,I b a w->(∀j,j<n->b j=true)->Q .normal a w)(agq:∀(i:Nat) o,ops[i]?=some o->∀e∈o.after,Region.binds .any e=true->e.on<i)
  (hstep:∀b a w (i:Nat) o,I b a w->ops[i]?=some o->b i=false->(∀e∈o.after,Region.binds .any e=true->b e.on=true)->wpOp P ops Q i (λa' w'=>I (aHw b i) a' w') a w):
  ∀fuel b a w,cnt b n=fuel->I b a w->wpAny P .any ops Q fuel (yE n b) a w:=by
 have all:∀b,Region.ready .any ops (yE n b)=[]->∀j,j<n->b j=true:=by
  intro b hr j
  induction j using Nat.strongRecOn with
  |_ j ih=>
   intro hj;cases hb:b j with
   |true=>rfl
   |false=>
    exfalso;have ho:ops[j]?=some ops[j]:=by simp[hn,hj]
    have:j∈Region.ready .any ops (yE n b):=mem_ready.2 ⟨by rw[Gu hj,hb],_,ho,λe he NR=>by have h1:=agq j _ ho e he NR;rw[Gu (by omega)];exact ih _ h1 (by omega)⟩;rw[hr]at this;cases this
 intro fuel
 induction fuel with
 |zero=>
  intro b a w hc hI;have hall:=acO n hc;refine⟨?_,hend b a w hI hall⟩;refine List.eq_nil_iff_forall_not_mem.2 λj hj=>?_;obtain⟨h1,o,ho,_⟩:=mem_ready.1 hj;have hj':j<n:=by rw[<-hn];exact(aIf.1 ho).1
  rw[Gu hj',hall j hj']at h1;cases h1
 |succ fuel ih=>
  intro b a w hc hI;refine⟨λhr=>hend b a w hI (all b hr),λi hi=>?_⟩;obtain⟨h1,o,ho,h2⟩:=mem_ready.1 hi;have hi':i<n:=by rw[<-hn];exact(aIf.1 ho).1
  rw[Gu hi']at h1;rw[au4];refine wpOp_mono (λa' w' h=>ih _ a' w' ?_ h) (hstep b a w i o hI ho h1 λe he NR=>?_)
  .have:=adV h1 n hi'
   omega
  .have h3:=h2 e he NR
   have:=agq i o ho e he NR;rwa[Gu (by omega)]at h3
def GF{P:Program}{ops:Array Oper}{Q:Exit->Act->World->Prop}{i:Nat}{o:Oper}{next:Act->World->Prop}{l:Fr}{ds:List Deferred}{w:World}(ho:ops[i]?=some o)(hg:o.guard=none)
  (h:aIP P l o w (λv w'=>next (act (put l o.dst v) ds) w') (λ_ _=>False)):wpOp P ops Q i next (act l ds) w:=by
 unfold wpOp;simp only[ho];rw[aN (by simp[Region.wanted,hg])];exact .inl (Lc h (λv w' hk=>by rw[vS];exact hk) (λc w' he=>he.elim))
def LM{l:Fr}{t:Nat}{v:Value}{K:Value->Prop}(h:l[t]?=some v)(hk:K v):tD l t K:=by
 induction l generalizing t with
 |nil=>cases h
 |cons x l ih=>cases t with
  |zero=>obtain rfl:=bO h;exact hk
  |succ t=>exact ih h
def Au(w:World)(g:Nat)(es:List (Value×Value)):Prop:=∃ms c,w.heap[g]?=some (.map ms c)/\(ms.toList.map λe=>(e.key,e.val)).Perm es
def aqT{P:Program}{T tk te:TypeId}(hT:P.underlying T=some (.map tk te))(KL:WideMaps.KeyLaw P tk){w:World}{g:Nat}{ms:Array MapEntry}{c:Nat}{key x:Value}{lk:Lit}(hg:w.heap[g]?=some (.map ms c))(hkey:keyOf P tk key=some lk)
  (hall:∀e∈ms.toList,∃l,keyOf P tk e.key=some l)(hne:∀e∈ms.toList,e.key≠key):(Instr.mapUpdate T (.map (some g)) key x).run P w=.ok () (ChangeMaps.setBlock w g (.map (ms.push ⟨key,x,c⟩) (c+1))):=by
 have KL:=Maps.Keyed.of_law KL;rcases KL.find w hkey ms.toList hall with⟨h1,_⟩|⟨j,e0,_,h2,h3⟩
 .simp[Instr.mapUpdate,run_underlying hT,MapKept.run_getObj_map hg,KL.check w false hkey,h1,MapKept.run_setObj_map _ hg,Result.andThen,ChangeMaps.setBlock]
 .exact absurd h3 (hne e0 (uf h2))
def aoN(w:World)(g:Nat)(o:Obj):Mod (λk=>k=g) w (ChangeMaps.setBlock w g o):=
 ⟨rfl,rfl,rfl,by simp[ChangeMaps.setBlock],λk _ hk=>by simp only[ChangeMaps.setBlock];rw[Xq (λe=>hk e.symm)]⟩
end Go.Proofs.YtihaaoehhgmphaaGreatDoor.L
