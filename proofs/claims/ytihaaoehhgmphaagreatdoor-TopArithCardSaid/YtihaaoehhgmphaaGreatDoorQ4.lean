/- Texts of one proof, one behind the other. Conditions: as each theorem names them. -/
import Derived.Test.YtihaaoehhgmphaaGreatDoorQ3
import Derived.DeepKeys5
import Derived.StringKeys
import Derived.Lib.ItoaMem
import Derived.Lib.Bytealg
import Derived.Tactics
import Derived.Tactics2
import Derived.Defers
import Derived.Recover
import Derived.Laws.Pointers
set_option linter.all false
namespace Go.Proofs.YtihaaoehhgmphaaGreatDoor
open IntKind Go.RowKit Vc
set_option maxRecDepth 100000
variable{w:World}
structure aHX where
 k:Int
 m:Int
 d:ag
abbrev Tree:=List (ag×aHX)
def CH:aHX:=⟨0,0,[]⟩
def gi:Tree->ag->aHX
 |[],_=>CH
 |(q,e)::r,p=>if q=p then e else gi r p
def jl(T:Tree)(p:ag):aHX:=if p=[]then⟨2,7,[]⟩else gi T p
def aIm:Tree->ag->aHX->Tree
 |[],p,e=>[(p,e)]
 |(q,x)::r,p,e=>if q=p then(p,e)::r else(q,x)::aIm r p e
def vt(e:aHX):List Value:=[.int .i64 e.k,.int .i64 e.m,.string (S e.d)]
def vu(e:aHX):Value:=.agg ⟨vt e⟩
def rW(T:Tree):List KV:=T.map λx=>(.string (S x.1),vu x.2)
structure By(e:aHX):Prop where
 k:e.k=0\/e.k=1\/e.k=2
 m:0<=e.m/\e.m<=7
 d:e.d.length<=200000
def zw(T:Tree):Prop:=∀x∈T,x.1.length<=1000/\By x.2
def aut:By CH:=⟨.inl rfl,by decide,by decide⟩
def aee:∀{T:Tree},zw T->∀p,By (gi T p)
 |[],_,_=>aut
 |(q,e)::r,h,p=>by
  unfold gi;split
  .exact(h (q,e) (by simp)).2
  .exact aee (λx hx=>h x (by simp[hx])) p
def UD{T:Tree}(h:zw T)(p:ag):By (jl T p):=by
 unfold jl;split
 .exact⟨.inr (.inr rfl),by decide,by decide⟩
 .exact aee h p
def LY:∀{T:Tree} {p:ag} {e:aHX} {x:ag×aHX},x∈aIm T p e->x=(p,e)\/x∈T
 |[],p,e,x,h=>.inl (gE.1 h)
 |(q,y)::r,p,e,x,h=>by
  unfold aIm at h;split at h
  .rcases aHs.1 h with h|h
   .exact .inl h
   .exact .inr (BO _ h)
  .rcases aHs.1 h with h|h
   .exact .inr (by rw[h];simp)
   .rcases LY h with h|h
    .exact .inl h
    .exact .inr (BO _ h)
def av3{T:Tree}(h:zw T){p:ag}{e:aHX}(hp:p.length<=1000)(he:By e):zw (aIm T p e):=λx hx=>by
 rcases LY hx with rfl|hx
 .exact⟨hp,he⟩
 .exact h x hx
def ab3:∀{T:Tree} {p:ag},(∀x∈T,x.1≠p)->gi T p=CH
 |[],_,_=>rfl
 |(q,e)::r,p,h=>by unfold gi;rw[aG (h (q,e) (by simp))];exact ab3 λx hx=>h x (by simp[hx])
def ac7:∀{T:Tree} {p:ag} {e:aHX},(T.map Prod.fst).Nodup->(p,e)∈T->gi T p=e
 |(q,x)::r,p,e,hn,h=>by
  rw[gI,Q6]at hn;unfold gi;rcases aHs.1 h with h|h
  .obtain⟨rfl,rfl⟩:=aJ5 h
   rw[aL rfl]
  .have:q≠p:=λe'=>hn.1 (by rw[e'];exact dY.2 ⟨_,h,rfl⟩)
   rw[aG this];exact ac7 hn.2 h
def ab4:∀{T:Tree} {p:ag} {e:aHX},(∀x∈T,x.1≠p)->aIm T p e=T++[(p,e)]
 |[],_,_,_=>rfl
 |(q,x)::r,p,e,h=>by unfold aIm;rw[aG (h (q,x) (by simp)),ab4 λy hy=>h y (by simp[hy])];rfl
def ac8:∀{T1 T2:Tree} {p:ag} {e x:aHX},(∀y∈T1,y.1≠p)->aIm (T1++(p,x)::T2) p e=T1++(p,e)::T2
 |[],T2,p,e,x,_=>by simp[aIm]
 |(q,y)::r,T2,p,e,x,h=>by rw[BX,aIm,aG (h (q,y) (by simp)),ac8 λz hz=>h z (by simp[hz])];rfl
def aal{β:Type}:∀{T:List (ag×β)} {p:ag},(∃x∈T,x.1=p)->∃T1 x T2,T=T1++(p,x)::T2/\∀y∈T1,y.1≠p
 |[],p,h=>by obtain⟨x,hx,_⟩:=h;cases hx
 |(q,y)::r,p,h=>by
  by_cases hq:q=p
  .subst hq
   exact⟨[],y,r,rfl,by simp⟩
  .obtain⟨x,hx,e⟩:=h
   rcases aHs.1 hx with rfl|hx
   .exact absurd e hq
   .obtain⟨T1,x2,T2,e1,e2⟩:=aal ⟨x,hx,e⟩
    exact⟨(q,y)::T1,x2,T2,by rw[e1];rfl,λz hz=>by
     rcases aHs.1 hz with rfl|hz
     .exact hq
     .exact e2 z hz⟩
def str_inj{a b:ag}(h:Value.string (S a)=.string (S b)):a=b:=by injection h with h;have:=gJ ByteArray.toList h;simpa[yy]using this
def rR{t:TypeId}{s:ag}(ht:Tryz.prog.underlying t=some .string)(hs:s.length<=maxLen):keyOf aM t (.string (S s))=some (.string s):=WideMaps.keyOf_string_mk ht hs
def qJ{s:ag}(h:s.length<=1000):s.length<=maxLen:=by simp only[maxLen];omega
abbrev cm:TypeId:=9
def wX:WideMaps.KeyLaw aM cm:=WideMaps.string_law rfl
def Tk:Tryz.prog.underlying RW=some (.map cm qH):=rfl
def auu(w:World):(zeroValue qH).run aM w=.ok (vu CH) w:=rfl
def SP{T:Tree}(h:zw T):∀p∈rW T,∃l,keyOf aM cm p.1=some l:=λp hp=>by obtain⟨x,hx,rfl⟩:=dY.1 hp;exact⟨_,rR rfl (qJ (h x hx).1)⟩
def aqH{T:Tree}{g:Nat}(h:dM w g (rW T)):(T.map Prod.fst).Nodup:=by
 obtain⟨ms,c,_,hG⟩:=h;have:=hG.nodup;have e:(rW T).map Prod.fst=(T.map Prod.fst).map λp=>Value.string (S p):=by simp[rW,DU,Function.comp_def]
 rw[e]at this;exact List.Pairwise.of_map (λp=>Value.string (S p)) (λa b h e=>h (by rw[e])) this
def asy{T:Tree}{g:Nat}(h:dM w g (rW T))(ok:zw T){p:ag}(hp:p.length<=1000):(Instr.lookup RW (.map (some g)) (.string (S p)) false).run aM w=.ok (vu (gi T p)) w:=by
 rcases Ee wX Tk (auu w) h (rR rfl (qJ hp)) (SP ok) false with⟨v,h1,h2⟩|⟨h1,h2⟩
 .obtain⟨x,hx,e⟩:=dY.1 h1
  obtain⟨e1,rfl⟩:=aJ5 e;have e1:=str_inj e1;rw[ac7 (e:=x.2) (aqH h) (by rw[<-e1];exact hx)];exact h2
 .rw[ab3 λx hx e=>h1 _ (dY.2 ⟨x,hx,rfl⟩) (by rw[e])]
  exact h2
def auv{T:Tree}{g:Nat}(h:dM w g (rW T))(ok:zw T){p:ag}(hp:p.length<=1000)(e:aHX):
  ∃w',(Instr.mapUpdate RW (.map (some g)) (.string (S p)) (vu e)).run aM w=.ok () w'/\dM w' g (rW (aIm T p e))/\Mod (λk=>k=g) w w'/\w'.heap.size=w.heap.size:=by
 by_cases hx:∃x∈T,x.1=p
 .obtain⟨T1,x,T2,rfl,h1⟩:=aal hx
  rw[ac8 h1];have ek:=SP ok;simp only[rW,wD,gI]at h ek⊢;exact afb wX Tk h (rR rfl (qJ hp)) ek _
 .have hn:∀x∈T,x.1≠p:=λx h e=>hx ⟨x,h,e⟩
  rw[ab4 hn];have:=ME wX Tk h (rR rfl (qJ hp)) (SP ok) (λq hq e'=>by obtain⟨x,hx,rfl⟩:=dY.1 hq;exact hn x hx (str_inj e')) (vu e);simpa[rW]using this
abbrev Oz:=ag×Bool
def ER(f:Oz):Value:=.agg ⟨[.string (S f.1),.bool f.2]⟩
def aoX{d:Nat}{t:TypeId}{s:List UInt8}(ht:Tryz.prog.underlying t=some .string)(hs:(S s).size<=maxLen):∃l,Tryz.prog.keyLits (d+1) t [.string (S s)]=some l:=by unfold Program.keyLits;rw[ht];exact⟨_,aL hs⟩
def keyLits_bool'{d:Nat}{t:TypeId}{b:Bool}(ht:Tryz.prog.underlying t=some .bool):∃l,Tryz.prog.keyLits (d+1) t [.bool b]=some l:=by unfold Program.keyLits;rw[ht];exact⟨_,rfl⟩
set_option maxRecDepth 100000 in
def aqI:∃f1 f2:Field,Tryz.prog.underlying qF=some (.struct #[f1,f2])/\f1.offset=0/\f2.offset=1/\Tryz.prog.underlying f1.type=some .string/\Tryz.prog.underlying f2.type=some .bool/\Tryz.prog.cellsOf f1.type=1/\Tryz.prog.cellsOf f2.type=1/\(#[f1,f2].all (·.name != "_"))=true:=
 ⟨_,_,rfl,rfl,rfl,rfl,rfl,rfl,rfl,by simp⟩
def aef{f:Oz}(ht:f.1.length<=1000):∃lk,keyOf aM qF (ER f)=some lk:=by
 obtain⟨t,n⟩:=f;obtain⟨f1,f2,hu,e1,e2,u1,u2,c1,c2,ha⟩:=aqI;have hk:Tryz.prog.keyType qF=true:=by kernel_rfl
 have hc:Tryz.prog.cellsOf qF=2:=by kernel_rfl
 have hf:(ER (t,n)).formed aM qF=true:=by simp only[ER,Value.formed,hu,hc];rfl
 have hs:(S t).size<=maxLen:=qJ ht;obtain⟨l1,h1⟩:=aoX (d:=Tryz.prog.types.size-1) u1 hs;obtain⟨l2,h2⟩:=keyLits_bool' (d:=Tryz.prog.types.size-1) (b:=n) u2;have hsz:Tryz.prog.types.size=Tryz.prog.types.size-1+1:=by
  have:0<Tryz.prog.types.size:=YB λh=>by
   have hx:Nat.ble 1 Tryz.prog.types.size=true:=by kernel_rfl
   rw[h]at hx;cases hx
  omega
 have hl:∃ls,Tryz.prog.keyLits (Tryz.prog.types.size+1) qF [.string (S t),.bool n]=some ls:=by
  have e0:Tryz.prog.keyLits (Tryz.prog.types.size+1) qF [.string (S t),.bool n]=([f1,f2].mapM λf=>Tryz.prog.keyLits Tryz.prog.types.size f.type ((([Value.string (S t),.bool n]:List Value).drop f.offset).take (Tryz.prog.cellsOf f.type))).map List.flatten:=by
   conv=>lhs;unfold Program.keyLits
   rw[hu];exact aL ⟨by rw[hc];rfl,ha⟩
  refine⟨([l1,l2]:List (List Lit)).flatten,e0.trans ?_⟩;rw[yf,e1,c1];have a1:Tryz.prog.keyLits Tryz.prog.types.size f1.type [.string (S t)]=some l1:=by rw[hsz];exact h1
  have a2:Tryz.prog.keyLits Tryz.prog.types.size f2.type [.bool n]=some l2:=by rw[hsz];exact h2
  have b2:([f2].mapM λf=>Tryz.prog.keyLits Tryz.prog.types.size f.type ((([Value.string (S t),.bool n]:List Value).drop f.offset).take (Tryz.prog.cellsOf f.type)))=some [l2]:=by
   rw[yf,e2,c2];show(do let y<-Tryz.prog.keyLits Tryz.prog.types.size f2.type [.bool n];_)=_
   rw[a2];rfl
  rw[b2];show Option.map List.flatten (do let y<-Tryz.prog.keyLits Tryz.prog.types.size f1.type [.string (S t)];_)=_
  rw[a1];rfl
 obtain⟨ls,hl⟩:=hl;unfold keyOf;rw[hu];exact⟨.string (keyBytes ls),(aL (by rw[hk,hf];rfl)).trans (by show Option.map _ (Tryz.prog.keyLits (Tryz.prog.types.size+1) qF [.string (S t),.bool n])=_;rw[hl];rfl)⟩
set_option maxRecDepth 100000 in
def aeg:WideMaps.KeyLaw aM qF:=deep_law (m:=3) (by decide) (by kernel_rfl) (by kernel_rfl) (by kernel_rfl)
def afc:Tryz.prog.underlying akn=some (.map qF cm):=rfl
def UE:Tryz.prog.underlying Q3=some (.map cm 4):=rfl
def ES(l:List (Oz×ag)):List KV:=l.map λx=>(ER x.1,.string (S x.2))
def mT(l:List ag):List KV:=l.map λx=>(.string (S x),.bool true)
def aeh{l:List (Oz×ag)}(h:∀x∈l,x.1.1.length<=1000):∀p∈ES l,∃lk,keyOf aM qF p.1=some lk:=λp hp=>by obtain⟨x,hx,rfl⟩:=dY.1 hp;exact aef (h x hx)
def T3{l:List ag}(h:∀x∈l,x.length<=1000):∀p∈mT l,∃lk,keyOf aM cm p.1=some lk:=λp hp=>by obtain⟨x,hx,rfl⟩:=dY.1 hp;exact⟨_,rR rfl (qJ (h x hx))⟩
end Go.Proofs.YtihaaoehhgmphaaGreatDoor
namespace Go.Proofs.YtihaaoehhgmphaaGreatDoor
open IntKind Go.RowKit Vc
inductive Pr(α:Type)where
 |ok(n:α)
 |bad(k:Nat)
def qh(c:UInt8):Nat:=(c|||32).toNat
def aID(c:UInt8):Option Nat:=if 48<=c.toNat/\c.toNat<=57 then some (c.toNat-48)else if 97<=qh c/\qh c<=122 then some (qh c-97+10)else none
def k3(b:Nat):ag->Nat->Pr Nat
 |[],n=>.ok n
 |c::s,n=>match aID c with
  |none=>.bad 2
  |some d=>if b<=d then .bad 2 else if 18446744073709551615<n*b+d then .bad 1 else k3 b s (n*b+d)
def jI(b:Nat)(s:ag):Pr Nat:=if s=[]then .bad 2 else k3 b s 0
def signed(neg:Bool)(r:Pr Nat):Pr Int:=match r with
 |.bad k=>.bad k
 |.ok n=>if neg=true then(if 9223372036854775808<n then .bad 1 else .ok (-(n:Int)))else if 9223372036854775808<=n then .bad 1 else .ok (n:Int)
def nM(b:Nat)(s:ag):Pr Int:=match s with
 |[]=>.bad 2
 |c::t=>if c=43 then signed false (jI b t)else if c=45 then signed true (jI b t)else signed false (jI b (c::t))
def ab5{b:Nat}:∀{s:ag} {n k:Nat},k3 b s n=.bad k->k=1\/k=2
 |[],n,k,h=>by cases h
 |c::s,n,k,h=>by
  simp only[k3]at h;split at h
  .injection h with h;exact .inr h.symm
  .split at h
   .injection h with h;exact .inr h.symm
   .split at h
    .injection h with h;exact .inl h.symm
    .exact ab5 h
def ac9{b:Nat}:∀{s:ag} {n m:Nat},n<=18446744073709551615->k3 b s n=.ok m->m<=18446744073709551615
 |[],n,m,hn,h=>by injection h with h;omega
 |c::s,n,m,hn,h=>by
  simp only[k3]at h;split at h
  .cases h
  .split at h
   .cases h
   .split at h
    .cases h
    .exact ac9 (by omega) h
def aKE{b:Nat}{s:ag}{k:Nat}(h:jI b s=.bad k):k=1\/k=2:=by
 unfold jI at h;split at h
 .injection h with h;exact .inr h.symm
 .exact ab5 h
def asz{b:Nat}{s:ag}{m:Nat}(h:jI b s=.ok m):m<=18446744073709551615:=by
 unfold jI at h;split at h
 .cases h
 .exact ac9 (by decide) h
def aaW{neg:Bool}{r:Pr Nat}{k:Nat}(hr:∀j,r=.bad j->j=1\/j=2)(h:signed neg r=.bad k):k=1\/k=2:=by
 unfold signed at h;split at h
 .injection h with h
  subst h;exact hr _ rfl
 .split at h
  .split at h
   .injection h with h;exact .inl h.symm
   .cases h
  .split at h
   .injection h with h;exact .inl h.symm
   .cases h
def aqJ{b:Nat}{s:ag}{k:Nat}(h:nM b s=.bad k):k=1\/k=2:=by
 unfold nM at h;split at h
 .injection h with h;exact .inr h.symm
 .split at h
  .exact aaW (λ_=>aKE) h
  .split at h<;>exact aaW (λ_=>aKE) h
def ZW{neg:Bool}{r:Pr Nat}{n:Int}(h:signed neg r=.ok n): -9223372036854775808<=n/\n<9223372036854775808:=by
 unfold signed at h;split at h
 .cases h
 .split at h
  .split at h
   .cases h
   .injection h with h;omega
  .split at h
   .cases h
   .injection h with h;omega
def aoY{b:Nat}{s:ag}{n:Int}(h:nM b s=.ok n): -9223372036854775808<=n/\n<9223372036854775808:=by
 unfold nM at h;split at h
 .cases h
 .split at h
  .exact ZW h
  .split at h<;>exact ZW h
def qY(c:UInt8):Bool:=decide (48<=c.toNat)&&decide (c.toNat<=57)
def azg(s:ag)(n:Nat):Nat:=s.foldl (λn c=>n*10+(c.toNat-48)) n
abbrev dec(n:Nat):ag:=Lib.decDigits n
def SQ{n:Nat}(h:n<10):dec n=[UInt8.ofNat (48+n)]:=Lib.decDigits_one h
def ac_{n:Nat}(h:¬n<10):dec n=dec (n/10)++[UInt8.ofNat (48+n%10)]:=by
 conv=>lhs;unfold dec;rw[Lib.decDigits]
 rw[dif_neg h]
def azh(s:ag):Option Nat:=if s≠[]/\s.length<=9/\s.all qY=true/\(s.head?=some 48->s.length=1)then some (azg s 0)else none
def LZ{n:Nat}(h:n<1000000000):(dec n).length<=9:=by
 have key:∀(k m:Nat),m<10^(k+1)->(dec m).length<=k+1:=by
  intro k
  induction k with
  |zero=>intro m hm;rw[SQ (by omega)];simp
  |succ k ih=>
   intro m hm;rcases yl m 10 with h1|h1
   .rw[SQ h1];simp
   .rw[ac_ (by omega),cB]
    have:=ih (m/10) (by rw[Nat.pow_succ]at hm;omega);simp only[bf,aHf];omega
 exact key 8 n (by omega)
def colon(s:ag):Nat:=(s.takeWhile (λc=>c !=58)).length
def step(s:ag):Option (ag×ag):=match azh (s.take (colon s))with
 |none=>none
 |some n=>if s[colon s+1+n]?=some 44 then some ((s.drop (colon s+1)).take n,s.drop (colon s+2+n))else none
def agO:Nat->ag->List ag->Option (List ag)
 |0,_,_=>none
 |f+1,s,acc=>if s=[]then some acc else match step s with
  |none=>none
  |some (x,r)=>agO f r (acc++[x])
def decode(s:ag):Option (List ag):=agO (s.length+1) s []
def one(x:ag):ag:=((dec x.length++[58])++x)++[44]
def encode(l:List ag):ag:=(l.map one).flatten
def aos(l m:List ag):encode (l++m)=encode l++encode m:=by simp[encode]
def apH(x:ag)(m:List ag):encode (x::m)=one x++encode m:=by simp[encode]
def total(l:List ag):Nat:=(l.map λx=>x.length+1).sum
def Sy(x:ag)(l:List ag):total (x::l)=x.length+1+total l:=by simp[total]
def aot(l:List ag)(k:Nat):total (l.take k)<=total l:=by
 have:=gJ total (pV k l);have h:∀a b:List ag,total (a++b)=total a+total b:=by intro a b;simp[total]
 rw[h]at this;omega
def ab6{l:List ag}{x:ag}(h:x∈l):x.length+1<=total l:=by
 induction l with
 |nil=>cases h
 |cons y l ih=>
  rw[Sy];rcases aHs.1 h with rfl|h
  .omega
  .have:=ih h
   omega
def aoZ(l:List ag):l.length<=total l:=by
 induction l with
 |nil=>simp[total]
 |cons y l ih=>rw[Sy];simp only[bf];omega
def ada{l:List ag}(h:total l<=100000):∀x∈l,(dec x.length).length<=9:=λx hx=>LZ (by have:=ab6 hx;omega)
def LA{l:List ag}(h:∀x∈l,(dec x.length).length<=9):(encode l).length<=11*total l:=by
 induction l with
 |nil=>simp[encode]
 |cons x l ih=>rw[apH,Sy,cB];have:=ih (λy hy=>h y (by simp[hy]));have:=h x (by simp);simp only[one,cB,bf,aHf];omega
end Go.Proofs.YtihaaoehhgmphaaGreatDoor
namespace Go.Proofs.YtihaaoehhgmphaaGreatDoor
open IntKind Go.RowKit Vc
variable{w:World}
structure rX(w:World)(T g o B:Nat)(cs:List Value)(v:Value)(bs:List UInt8):Prop where
 row:Row w g T ⟨cs⟩
 addr:cs[o]?=some (.pointer none)\/cs[o]?=some (.pointer (some ⟨g,o,none⟩))
 buf:cs[o+1]?=some v
 own:aS w B 5 1 v bs.length (bc bs)
 ne:v.ownBlock≠some g
def Roomy(v:Value)(bs:List UInt8):Prop:=∀p c,v=.slice p bs.length c->p=none\/c≠0
structure eE(w:World)(T g o B:Nat)(cs:List Value)(v:Value)(bs:List UInt8):Prop extends rX w T g o B cs v bs where
 room:Roomy v bs
def nT(T n o:Nat):Prop:=liesAt aM Tryz.prog.depth T (n/Tryz.prog.cellsOf T) o 86 1=true
def Row.shape{g:Nat}{t:TypeId}{cs:List Value}(h:Row w g t ⟨cs⟩):w.shape? g=some (t,cs.length):=by obtain⟨fz,h,_⟩:=h;simp[World.shape?,h]
def auw:TJ aM Yj:=⟨_,Tryz.func163,by kernel_rfl,by kernel_rfl,by kernel_rfl,by kernel_rfl⟩
def GX{α:Type}{l:List α}{i:Nat}{a:α}(h:l[i]?=some a):l.set i a=l:=by
 apply aIh;intro j
 by_cases hj:i=j
 .subst hj
  rw[sW (iU.1 h).1,h]
 .rw[rJ hj]
section
variable{T g o B:Nat}{cs:List Value}{v:Value}{bs:List UInt8}
def rX.roomy(h:rX w T g o B cs v bs)(hb:bs≠[]):eE w T g o B cs v bs:=by refine⟨h,λp c e=>?_⟩;have hpos:0<bs.length:=mK.2 hb;obtain⟨g',cap,cur,hv,_,_,hcap,_⟩:=h.own.row hpos;rw[e]at hv;injection hv with _ _ Bj;exact .inr (by omega)
def rX.lt(h:rX w T g o B cs v bs):o+1<cs.length:=(iU.1 h.buf).1
def eE.lt(h:eE w T g o B cs v bs):o+1<cs.length:=h.torX.lt
def eE.mod{S:Nat->Prop}{w':World}(h:eE w T g o B cs v bs)(hm:Mod S w w')(hg:¬S g)(hv:∀k,v.ownBlock=some k->¬S k):eE w' T g o B cs v bs:=
 ⟨⟨h.row.mod hm hg,h.addr,h.buf,h.own.mod hm hv,h.ne⟩,h.room⟩
def eE.still{w':World}(h:eE w T g o B cs v bs)(hm:Still w w'):eE w' T g o B cs v bs:=h.mod hm (λh=>h) (λ_ _ h=>h)
def eE.fresh(h:Row w g T ⟨cs⟩)(h0:cs[o]?=some (.pointer none))(h1:cs[o+1]?=some (.slice none 0 0)):eE w T g o B cs (.slice none 0 0) []:=
 ⟨⟨h,.inl h0,h1,aS.nil _ _ _ _,by simp[Value.ownBlock]⟩,λp c e=>by injection e with e1 _ _;exact .inl e1.symm⟩
def eE.other(h:eE w T g o B cs v bs){w':World}{cs':List Value}(hr:Row w' g T ⟨cs'⟩)(hm:Mod (λk=>k=g) w w')(h0:cs'[o]?=cs[o]?)(h1:cs'[o+1]?=cs[o+1]?):eE w' T g o B cs' v bs:=
 ⟨⟨hr,by rw[h0];exact h.addr,h1.trans h.buf,h.own.mod hm (λk hk e=>h.ne (by rw[hk,e])),h.ne⟩,h.room⟩
def RJ(h:rX w T g o B cs v bs)(hl:nT T cs.length o):aq J7 #[.pointer (some ⟨g,o,none⟩)] w
  (λe w'=>e=.returned (.tuple #[])/\rX w' T g o B (cs.set o (.pointer (some ⟨g,o,none⟩))) v bs/\Mod (λk=>k=g) w w'/\w'.heap.size=w.heap.size):=by
 apply ajR;have hlt:=h.lt;have hsh:=h.row.shape;rcases h.addr with h0|h0
 .refine⟨none,h.row.aj h0,aA (λ_=>?_) (λh=>by cases h)⟩
  refine⟨⟨_,_,hsh,by show o<_;omega⟩,auw,⟨_,_,hsh,hl⟩,dO h.row (by simp;omega) (by simp[Value.oneCell']) λw1 aHc bW hz1=>⟨rfl,?_,bW,hz1⟩⟩;exact⟨aHc,.inr (sW (by omega)),by show(cs.set o _)[o+1]?=_;rw[rJ (by omega)];exact h.buf,h.own.mod bW (λk hk e=>h.ne (by rw[hk,e])),h.ne⟩
 .refine⟨_,h.row.aj h0,aA (λh=>by cases h) (λ_=>⟨_,h.row.aj h0,by kernel_rfl,rfl,rfl,?_,Mod.refl _ _,rfl⟩)⟩
  rw[GX h0];exact h
def aKH{p p':Option Addr}{n n' m c c' s:Nat}(hb:oO p p' n' c c' s)(hn':n'=n+m)(h:∀q d,(Value.slice p n c)=.slice q n d->q=none\/d≠0){xs:List Value}{e:TypeId}{sz:Nat}(ho:aS w B e sz (.slice p' n' c') n' xs):
  ∀q d,(Value.slice p' n' c')=.slice q n' d->q=none\/d≠0:=by
 intro q d hq;injection hq with q1 _ q2;subst q1;subst q2;rcases hb with⟨rfl,rfl⟩|⟨_,h0⟩
 .exact h _ _ rfl
 .rcases ho.2 with⟨hv,h1⟩|⟨_,cap,_,hv,_,_,hc,_⟩
  .omega
  .injection hv with _ _ hv
   exact .inr (by omega)
def KO(h:rX w T g o B cs v bs)(hl:nT T cs.length o)(s:List UInt8)(hB:B<=w.heap.size)(hs:bs.length+s.length<=140737488355328):
  aq iT #[.pointer (some ⟨g,o,none⟩),.string (S s)] w (λe w'=>e=.returned (.tuple #[.int .i64 (s.length:Int),.nilIface])/\
   ∃v',rX w' T g o B ((cs.set o (.pointer (some ⟨g,o,none⟩))).set (o+1) v') v' (bs++s)/\(Roomy v bs->Roomy v' (bs++s))/\Mod (λk=>k=g\/v.ownBlock=some k) w w'):=by
 apply XX;refine(RJ h hl).mono ?_;rintro _ w1 ⟨rfl,h1,bW,hz1⟩;obtain⟨p,c,rfl⟩:=h1.own.form;have hlt:=h.lt;refine .inl ⟨rfl,_,_,_,by rw[aHa];exact h1.row.aj h1.buf,?_⟩;refine ab2 h1.own (by omega) (by omega) (by omega) λp' c' w2 cc hm2 fS=>?_;have hr2:=h1.row.mod hm2 (λe=>h1.ne e);show cJ (Addr.add _ 1) _ _ _ _
 rw[aHa];refine dO hr2 (by simp;omega) (by simp[Value.oneCell']) λw3 hr3 cV vO=>⟨rfl,_,⟨hr3,?_,?_,?_,?_⟩,?_,?_⟩
 .exact .inr (by show((cs.set o _).set (o+1) _)[o]?=_;rw[rJ (by omega),sW (by omega)])
 .exact sW (by simp;omega)
 .have hne:(Value.slice p' (bs.length+s.length) c').ownBlock≠some g:=by
   rcases fS.own (n:=bs.length)with e|e
   .rw[e];exact h1.ne
   .rw[e];have:=h1.row.lt;exact λe=>by injection e with e;omega
  have:=cc.mod cV (λk hk e=>hne (by rw[hk,e]));rw[<-GM]at this;rw[cB];exact this
 .rcases fS.own (n:=bs.length)with e|e
  .rw[e];exact h1.ne
  .rw[e];have:=h1.row.lt;exact λe=>by injection e with e;omega
 .intro hroom
  rw[Roomy,cB];exact aKH fS rfl hroom cc
 .exact Mod.trans bW (Mod.trans hm2 cV (U:=λk=>k=g\/(Value.slice p bs.length c).ownBlock=some k) (λ_ h=>.inr h) (λ_ _ h=>.inl h)) (λ_ h=>.inl h) (λ_ _ h=>h)
def anO(h:rX w T g o B cs v bs)(hl:nT T cs.length o)(x:UInt8)(hB:B<=w.heap.size)(hs:bs.length+1<=140737488355328):
  aq FR #[.pointer (some ⟨g,o,none⟩),.int .u8 (x.toNat:Int)] w (λe w'=>e=.returned .nilIface/\
   ∃v',rX w' T g o B ((cs.set o (.pointer (some ⟨g,o,none⟩))).set (o+1) v') v' (bs++[x])/\(Roomy v bs->Roomy v' (bs++[x]))/\Mod (λk=>k=g\/v.ownBlock=some k) w w'):=by
 apply ajT;refine(RJ h hl).mono ?_;rintro _ w1 ⟨rfl,h1,bW,hz1⟩;obtain⟨p,c,rfl⟩:=h1.own.form;have hlt:=h.lt;refine .inl ⟨rfl,_,_,_,by rw[aHa];exact h1.row.aj h1.buf,aQ λw1' azi A_ aFY=>?_⟩;have aHL:=h1.own.still A_;refine rM aHL (by omega) (bc [x]) rfl (aKN _) (λ_=>⟨_,rfl,λj u hu=>?_⟩) (by omega) (by omega) λp' c' w2 cc hm2 fS=>?_
 .rw[aHa,cQ]
  exact azi.aj hu
 have hg1:=h1.row.lt;have hr2:=(h1.row.still A_).mod hm2 (λe=>h1.ne e);show cJ (Addr.add _ 1) _ _ _ _
 rw[aHa];refine dO hr2 (by simp;omega) (by simp[Value.oneCell']) λw3 hr3 cV vO=>⟨rfl,_,⟨hr3,?_,?_,?_,?_⟩,?_,?_⟩
 .exact .inr (by show((cs.set o _).set (o+1) _)[o]?=_;rw[rJ (by omega),sW (by omega)])
 .exact sW (by simp;omega)
 .have hne:(Value.slice p' (bs.length+1) c').ownBlock≠some g:=by
   rcases fS.own (n:=bs.length)with e|e
   .rw[e];exact h1.ne
   .rw[e];exact λe=>by injection e with e;omega
  have:=cc.mod cV (λk hk e=>hne (by rw[hk,e]));rw[<-GM]at this;rw[cB];exact this
 .rcases fS.own (n:=bs.length)with e|e
  .rw[e];exact h1.ne
  .rw[e];exact λe=>by injection e with e;omega
 .intro hroom
  rw[Roomy,cB];exact aKH fS rfl hroom cc
 .have azj:Mod (λk=>k=g\/(Value.slice p bs.length c).ownBlock=some k) w1 w3:=Mod.trans A_ (Mod.trans hm2 cV (U:=λk=>k=g\/(Value.slice p bs.length c).ownBlock=some k) (λ_ h=>.inr h) (λ_ _ h=>.inl h)) (λ_ h=>h.elim) (λ_ _ h=>h)
  exact Mod.trans bW azj (λ_ h=>.inl h) (λ_ _ h=>h)
def B1(h:eE w T g o B cs v bs)(hl:nT T cs.length o)(s:List UInt8)(hB:B<=w.heap.size)(hs:bs.length+s.length<=140737488355328):
  aq iT #[.pointer (some ⟨g,o,none⟩),.string (S s)] w (λe w'=>e=.returned (.tuple #[.int .i64 (s.length:Int),.nilIface])/\
   ∃v',eE w' T g o B ((cs.set o (.pointer (some ⟨g,o,none⟩))).set (o+1) v') v' (bs++s)/\Mod (λk=>k=g\/v.ownBlock=some k) w w'):=by
 refine(KO h.torX hl s hB hs).mono ?_;rintro _ w' ⟨rfl,v',h1,h2,h3⟩;exact⟨rfl,v',⟨h1,h2 h.room⟩,h3⟩
def ZB(h:eE w T g o B cs v bs)(hl:nT T cs.length o)(x:UInt8)(hB:B<=w.heap.size)(hs:bs.length+1<=140737488355328):
  aq FR #[.pointer (some ⟨g,o,none⟩),.int .u8 (x.toNat:Int)] w (λe w'=>e=.returned .nilIface/\
   ∃v',eE w' T g o B ((cs.set o (.pointer (some ⟨g,o,none⟩))).set (o+1) v') v' (bs++[x])/\Mod (λk=>k=g\/v.ownBlock=some k) w w'):=by
 refine(anO h.torX hl x hB hs).mono ?_;rintro _ w' ⟨rfl,v',h1,h2,h3⟩;exact⟨rfl,v',⟨h1,h2 h.room⟩,h3⟩
def Ab(h:eE w T g o B cs v bs)(hs:bs.length<=140737488355328):
  aq rI #[.pointer (some ⟨g,o,none⟩)] w (λe w'=>e=.returned (.string (S bs))/\Mod (λk=>v.ownBlock=some k) w w'):=by
 apply ajZ;obtain⟨p,c,rfl⟩:=h.own.form;refine⟨_,_,_,by rw[aHa];exact h.row.aj h.buf,h.room _ _ rfl,_,_,_,by rw[aHa];exact h.row.aj h.buf,?_⟩;refine⟨bs,rfl,by omega,?_⟩;rcases Decidable.em (bs=[])with rfl|h0
 .exact .inl ⟨rfl,rfl,(Mod.refl _ _).drew⟩
 .have hpos:0<bs.length:=mK.2 h0
  obtain⟨g',cap,cur,hv,_,hrow,hcap,hsz,_⟩:=h.own.row hpos;injection hv with hv1 _ Bj;subst hv1;subst Bj;refine .inr ⟨h0,g',cur.size,rfl,by obtain⟨fz,hh,_⟩:=hrow;exact(show World.shape? w g'=_ by simp[World.shape?,hh]),by omega,λj x hx=>?_,rfl,?_⟩
  .rw[aHa,cQ]
   exact h.own.cells rfl j _ (HF hx)
  .unfold World.freeze
   split
   .exact(Mod.refl _ _).drew
   .exact⟨rfl,rfl,rfl,by simp,λk hk hn=>by simp only[FU];rw[aG (λe=>hn (by rw[<-e];rfl))];rfl⟩
end
end Go.Proofs.YtihaaoehhgmphaaGreatDoor
namespace Go.Proofs.YtihaaoehhgmphaaGreatDoor
open IntKind Go.RowKit Vc
set_option maxRecDepth 100000
variable{w w0:World}
def Mod.av4{S:Nat->Prop}{a b:World}(h:Mod S a b){k:Nat}(hk:S k\/a.heap.size<=k)(o:Obj):Mod S a (b.putObj k o):=
 ⟨h.os,h.tape,h.output,by rw[World.putObj_size];exact h.size,λi hi hn=>(World.putObj_heap_other (by
  rintro rfl;rcases hk with hk|hk
  .exact hn hk
  .omega)).trans (h.block i hi hn)⟩
def Ey(w:World)(k:Nat)(o:Obj):Mod (λn=>n=k) w (w.putObj k o):=(Mod.refl (λn=>n=k) w).av4 (.inl rfl) o
def wR{k:Nat}{o:Obj}(h:w.heap[k]?=some o):k<w.heap.size:=(aH0.1 h).1
def yu{S:Nat->Prop}{w w':World}{k:Nat}{o:Obj}(h:w.heap[k]?=some o)(hm:Mod S w w')(hk:¬S k):w'.heap[k]?=some o:=(hm.block k (wR h) hk).trans h
structure Handler(k B:Nat)(Inv:(Nat->Prop)->List ag->World->Prop):Prop where
 step:∀X d x w,d.length<1000000->Inv X d w->Aq aM k [.string (S x)] w λe w'=>e=.returned (.bool true)/\Inv X (d++[x]) w'/\Mod (λi=>¬X i) w w'
 azk:∀X d w w',Inv X d w->Mod (λi=>X i/\B<=i) w w'->Inv X d w'
 more:∀X d w o,Inv X d w->Inv (λi=>X i\/i=w.heap.size) d (w.alloc o)
def U1(f:FuncId)(cap:List Value)(w0:World)(l:List ag)(D:Nat->Prop):Prop:=
 ∀k B Inv X w,Handler k B Inv->B<=w.heap.size->Inv X [] w->Still w0 w->(∀i,D i->X i)->aq f ⟨Cx k::cap⟩ w λe w'=>e=.returned (.tuple #[])/\∃l' X',l'.Perm l/\Inv X' l' w'/\∀i,X i->X' i
def rN(w:World)(b:Nat):Nat:=match w.heap[b]? with
 |some (.mapIter (some g) _ seen _)=>match w.heap[g]? with
  |some (.map ms _)=>(kvs (ms.toList.filter λe=>!seen.contains e.born)).length
  |_=>0
 |_=>0
def Lu{b g:Nat}{es rest:List KV}(h:qR w b g es rest):rN w b=rest.length:=by obtain⟨ms,c,seen,h1,h2,h3,h4⟩:=h;unfold rN;rw[h3];simp only[h1];exact h4.length_eq
def aqK{gm c0:Nat}{l:List ag}(hl:l.length<=1000000)(hm:dM w0 gm (mT l))(hc:Row w0 c0 Q3 ⟨[.map (some gm)]⟩):
  U1 FN [.pointer (some ⟨c0,0,none⟩)] w0 l (λi=>i=gm\/i=c0):=by
 intro k B Inv X w hH hB hI h0 hD;apply ajw;have bW:=hm.still h0;refine⟨_,rfl,(hc.still h0).aj rfl,?_⟩;obtain⟨ms,c,hg,hG⟩:=bW;refine⟨gm,ms,c,rfl,hg,?_⟩;have vP:gm<w.heap.size:=wR hg;have hI1:=hH.more X [] w (.mapIter (some gm) c #[] c) hI;have it1:=qR.begin hg hG;generalize hw1:w.alloc (.mapIter (some gm) c #[] c)=w1 at*;have hXg:X gm:=hD _ (.inl rfl);refine⟨λms' w2=>ms'=[]/\∃d rest,qR w2 w.heap.size gm (mT l) rest/\Inv (λi=>X i\/i=w.heap.size) d w2/\(mT d++rest).Perm (mT l),λw2=>rN w2 w.heap.size,⟨rfl,[],mT l,it1,hI1,by simp[mT]⟩,?_⟩;rintro _ ms' w2 ⟨rfl,d,rest,it2,hI2,hp⟩;rcases ac6 (P:=aM) it2 with⟨rfl,hr⟩|⟨kk,x,rest',w3,vl,hmem,hr,he,it3,m3,z3⟩
 .refine .inl ⟨w2,hr,rfl,d,_,?_,hI2,λi hi=>.inl hi⟩
  rw[ug]at hp;have e:∀q:List ag,q=(mT q).map λp=>match p.1 with
    |.string s=>s.toList
    |_=>[]:=by
   intro q
   induction q with
   |nil=>rfl
   |cons a r ih=>simp only[mT,gI,yy]at ih⊢;rw[<-ih]
  rw[e d,e l];exact hp.map _
 .obtain⟨t,ht,e⟩:=dY.1 hmem
  obtain⟨rfl,rfl⟩:=aJ5 e;have hI3:=hH.azk _ _ _ _ hI2 (m3.weaken λi e=>⟨.inr e,by rw[e];exact hB⟩);refine .inr ⟨_,_,w3,hr,t,.bool true,he,?_⟩;have hlen:d.length<1000000:=by have h1:=hp.length_eq;have h2:=vl.length_eq;simp only[mT,cB,lG,bf]at h1 h2;omega
  obtain⟨fn,tmps,a,b,h1,h2⟩:=hH.step _ _ t _ hlen hI3;refine⟨fn,tmps,a,b,h1,h2.mono ?_⟩;rintro _ w4 ⟨rfl,hI4,m4⟩;have it4:=it3.mod m4 (λh=>h (.inr rfl)) (λh=>h (.inl hXg));refine⟨true,rfl,⟨rfl,d++[t],rest',it4,hI4,?_⟩,?_⟩
  .have:mT (d++[t])++rest'=mT d++((.string (S t),.bool true)::rest'):=by simp[mT]
   rw[this];exact(List.Perm.append_left _ vl.symm).trans hp
  .show rN w4 w.heap.size<rN w2 w.heap.size
   rw[Lu it4,Lu it2,vl.length_eq];exact aHP _
def aob{f:FuncId}{cap:List Value}{l:List ag}{D:Nat->Prop}(hf:dD aM f=true)(hs:U1 f cap w l D)(hD:∀i,D i->i<w.heap.size)(hl:l.length<=1000000):
  aq Px #[.slice none 0 0,.func (.func f) #[] ⟨cap⟩] w λe w'=>∃l' p c,l'.Perm l/\e=.returned (.slice p l'.length c)/\aS w' w.heap.size cm 1 (.slice p l'.length c) l'.length (strs l')/\Still w w':=by
 apply ajH;refine aQ λw1 r1 s1 z1=>?_;show an (dD aM f) _ _
 rw[hf];intro rec hst hpe hy;have k1:Row ((w1.alloc (.deferred (some []))).alloc (.loop rec)) w.heap.size DZ ⟨[.slice none 0 0]⟩:=(r1.alloc _).alloc _;have hz:((w1.alloc (.deferred (some []))).alloc (.loop rec)).heap.size=w1.heap.size+2:=by simp
 have s2:Still w ((w1.alloc (.deferred (some []))).alloc (.loop rec)):=(s1.alloc _).alloc _;have hk0:((w1.alloc (.deferred (some []))).alloc (.loop rec)).heap[w1.heap.size+1]?=some (.loop rec):=by have:=heap_alloc_new (w1.alloc (.deferred (some []))) (.loop rec);simpa using this
 have hd0:((w1.alloc (.deferred (some []))).alloc (.loop rec)).heap[w1.heap.size]?=some (.deferred (some [])):=by rw[heap_alloc_old _ _ (by simp)];exact heap_alloc_new w1 _
 generalize(w1.alloc (.deferred (some []))).alloc (.loop rec)=wb at*;have hH:Handler (w1.heap.size+1) w.heap.size (λX d wc=>Still w wc/\wc.heap[w1.heap.size+1]?=some (.loop rec)/\wc.heap[w1.heap.size]?=some (.deferred (some []))/\(∃p c,Row wc w.heap.size DZ ⟨[.slice p d.length c]⟩/\aS wc w.heap.size cm 1 (.slice p d.length c) d.length (strs d)/\(∀r,(Value.slice p d.length c).ownBlock=some r->¬X r/\w1.heap.size+1<r))/\¬X (w1.heap.size+1)/\¬X w1.heap.size/\¬X w.heap.size/\∀i,X i->i<wc.heap.size):=by
  constructor
  .rintro X d x wc hdl ⟨a1,a2,a3,⟨p,c,a4,a5,a6⟩,a7,a8,a9,mZ⟩
   refine hy x wc _ a2 ⟨rfl,a2,nS ?_⟩;have mp:=Ey wc (w1.heap.size+1) (aIU rec);have hb:(wc.putObj (w1.heap.size+1) (aIU rec)).heap[w1.heap.size+1]?=some (aIU rec):=World.putObj_heap_same (wR a2);have hzz:(wc.putObj (w1.heap.size+1) (aIU rec)).heap.size=wc.heap.size:=World.putObj_size ..;generalize wc.putObj (w1.heap.size+1) (aIU rec)=wd at*;have b4:=a4.mod mp (λe=>by omega);have b5:=a5.mod mp (λr hr e=>by have:=(a6 r hr).2;omega);have Og:w.heap.size<=wd.heap.size:=by have:=a1.size;omega
   refine⟨p,d.length,c,b4.aj rfl,aQ λw5 r5 s5 z5=>?_⟩;refine rM (B:=w.heap.size) (b5.still s5) (by omega) [.string (S x)] rfl (by simp[Value.oneCell']) (λ_=>⟨_,rfl,λj u hu=>?_⟩) (by omega) (by omega) λp' c' w6 o6 m6 bk=>?_
   .rw[aHa,cQ]
    exact r5.aj hu
   have Vy:∀r,(Value.slice p' (d.length+1) c').ownBlock=some r->(Value.slice p d.length c).ownBlock=some r\/r=w5.heap.size:=λr hr=>by
    rcases bk.own (n:=d.length)with e|e
    .exact .inl (e.symm.trans hr)
    .rw[hr]at e
     exact .inr (bU e)
   have h5k:w1.heap.size+1<w5.heap.size:=by have:=wR hb;omega
   have yQ:∀r,(Value.slice p d.length c).ownBlock=some r->¬X r/\w1.heap.size+1<r/\w.heap.size<r:=λr hr=>by have:=a6 r hr;exact⟨this.1,this.2,by omega⟩
   have c4:=(b4.still s5).mod m6 (λe=>by have:=(yQ _ e).2.2;omega);refine aHb (g:=w.heap.size) (o:=0) c4 λw7 r7 m7 z7=>?_;have m57:Mod (λi=>(Value.slice p d.length c).ownBlock=some i\/i=w.heap.size) w5 w7:=Mod.trans m6 m7 (λ_ h=>.inl h) (λ_ _ h=>.inr h);have m17:Mod (λi=>i=w1.heap.size+1\/(Value.slice p d.length c).ownBlock=some i\/i=w.heap.size) wc w7:=Mod.trans (Mod.trans mp s5 (λ_ h=>.inl h) (λ_ _ h=>h.elim)) m57 (λ_ h=>h) (λ_ _ h=>.inr h);have hb7:w7.heap[w1.heap.size+1]?=some (aIU rec):=yu (yu hb s5 (λh=>h)) m57 (λh=>by
    rcases h with h|h
    .have:=(yQ _ h).2.1;omega
    .omega)
   have a37:w7.heap[w1.heap.size]?=some (.deferred (some [])):=yu a3 m17 (λh=>by
    rcases h with h|h|h
    .omega
    .have:=(yQ _ h).2.1;omega
    .omega)
   refine⟨hb7,rfl,?_,?_⟩
   .have mq:=Ey w7 (w1.heap.size+1) (.loop rec)
    have hz8:(w7.putObj (w1.heap.size+1) (.loop rec)).heap.size=w7.heap.size:=World.putObj_size ..;have hb8:(w7.putObj (w1.heap.size+1) (.loop rec)).heap[w1.heap.size+1]?=some (.loop rec):=World.putObj_heap_same (wR hb7);generalize w7.putObj (w1.heap.size+1) (.loop rec)=w8 at*;have h68:w6.heap.size=w8.heap.size:=by omega
    have o8:aS w8 w.heap.size cm 1 (.slice p' (d.length+1) c') (d.length+1) (strs d++[.string (S x)]):=(o6.mod m7 (λr hr e=>by
     rcases Vy r hr with h|h
     .have:=(yQ _ h).2.2;omega
     .omega)).mod mq (λr hr e=>by
     rcases Vy r hr with h|h
     .have:=(yQ _ h).2.1;omega
     .omega)
    have hm18:Mod (λi=>i=w1.heap.size+1\/(Value.slice p d.length c).ownBlock=some i\/i=w.heap.size) wc w8:=Mod.trans m17 mq (λ_ h=>h) (λ_ _ h=>.inl h);refine⟨Mod.trans a1 hm18 (λ_ h=>h.elim) (λi hi h=>?_),hb8,yu a37 mq (by omega),⟨p',c',?_,?_,λr hr=>?_⟩,a7,a8,a9,λi hi=>aH2 (mZ i hi) hm18.size⟩
    .rcases h with h|h|h
     .omega
     .have:=(yQ _ h).2.2;omega
     .omega
    .rw[cB]
     exact r7.mod mq (by omega)
    .rw[cB,Ls]
     exact o8
    .rw[cB]at hr
     rcases Vy r hr with h|h
     .exact⟨(yQ _ h).1,(yQ _ h).2.1⟩
     .refine⟨λhX=>?_,by have:=wR hb;omega⟩
      have:=mZ r hX;have:=s5.size;have:=mp.size;omega
   .refine Mod.trans m17 (Ey w7 (w1.heap.size+1) (.loop rec)) (λi h hX=>?_) (λi hi h hX=>?_)
    .rcases h with rfl|h|rfl
     .exact a7 hX
     .exact(yQ _ h).1 hX
     .exact a9 hX
    .rw[h]at hX
     exact a7 hX
  .rintro X d wc wd ⟨a1,a2,a3,⟨p,c,a4,a5,a6⟩,a7,a8,a9,mZ⟩ hm
   exact⟨Mod.trans a1 hm (λ_ h=>h) (λi hi h=>by omega),yu a2 hm (λh=>a7 h.1),yu a3 hm (λh=>a8 h.1),⟨p,c,a4.mod hm (λh=>a9 h.1),a5.mod hm (λr hr h=>(a6 r hr).1 h.1),a6⟩,a7,a8,a9,λi hi=>aH2 (mZ i hi) hm.size⟩
  .rintro X d wc o ⟨a1,a2,a3,⟨p,c,a4,a5,a6⟩,a7,a8,a9,mZ⟩
   have OA:(wc.alloc o).heap.size=wc.heap.size+1:=World.size_alloc ..;have ms:Still wc (wc.alloc o):=(Mod.refl _ _).alloc o;have l1:=wR a2;have l2:=wR a3;have l3:=a4.lt;refine⟨a1.alloc o,yu a2 ms (λh=>h),yu a3 ms (λh=>h),⟨p,c,a4.still ms,a5.still ms,λr hr=>⟨λh=>?_,(a6 r hr).2⟩⟩,λh=>?_,λh=>?_,λh=>?_,λi hi=>?_⟩
   .rcases h with h|h
    .exact(a6 r hr).1 h
    .have:=(a5.lt r hr).2;omega
   .rcases h with h|h
    .exact a7 h
    .omega
   .rcases h with h|h
    .exact a8 h
    .omega
   .rcases h with h|h
    .exact a9 h
    .omega
   .rcases hi with h|h
    .have:=mZ i h;omega
    .omega
 refine(hs (w1.heap.size+1) w.heap.size _ D wb hH (by omega) ⟨s2,hk0,hd0,⟨none,0,k1,aS.nil _ _ _ _,λr hr=>by cases hr⟩,λh=>by have:=hD _ h;omega,λh=>by have:=hD _ h;omega,λh=>by have:=hD _ h;omega,λi hi=>by have:=hD i hi;omega⟩ s2 (λ_ h=>h)).mono ?_;rintro _ w3 ⟨rfl,l',X',hp,⟨a1,a2,a3,⟨p,c,a4,a5,a6⟩,a7,a8,a9,mZ⟩,_⟩;refine⟨⟨_,rfl⟩,.inl ⟨a2,?_⟩⟩;have mq:=Ey w3 (w1.heap.size+1) (.loop {rec with state:=.exhausted});have hzq:(w3.putObj (w1.heap.size+1) (.loop {rec with state:=.exhausted})).heap.size=w3.heap.size:=World.putObj_size ..;generalize w3.putObj (w1.heap.size+1) (.loop {rec with state:=.exhausted})=w4 at*;have b4:=a4.mod mq (λe=>by omega);have b5:=a5.mod mq (λr hr e=>by have:=(a6 r hr).2;omega);have b3:=yu a3 mq (by omega);have s4:Still w w4:=Mod.trans a1 mq (λ_ h=>h.elim) (λi hi e=>by omega);refine⟨p,_,c,b4.aj rfl,nS ⟨b3,l',p,c,hp,rfl,?_,?_⟩⟩
 .refine b5.mod (Ey w4 w1.heap.size _) (λr hr e=>by have:=(a6 r hr).2;omega)
 .exact Mod.trans s4 (Ey w4 w1.heap.size _) (λ_ h=>h) (λi hi e=>by omega)
end Go.Proofs.YtihaaoehhgmphaaGreatDoor
namespace Go.Proofs.YtihaaoehhgmphaaGreatDoor.L
open IntKind Go.RowKit Vc
def aIR:ag->Option ag
 |[]=>none
 |a::r=>if a=39 then some r else aIR r
def ju(u:ag->Option ag)(q:ag->Option ag)(ok:Bool)(e:UInt8):Nat->ag->Option ag
 |0,_=>none
 |_+1,[]=>none
 |n+1,c::r=>
  if c=e then some r
  else if e=34/\c=39 then(if ok=true then ju u q ok e n r else none)
  else if e=41/\c=40 then(if ok=true then(match q r with
   |some t=>ju u q ok e n t
   |none=>none)else none)
  else match u (c::r)with
   |some t=>ju u q ok e n t
   |none=>none
def yG(v:UInt8->ag->Option ag)(a:UInt8):ag->Option ag
 |b::t=>if a=36/\b=40 then v 41 t else if a=36/\b=123 then v 125 t else some (b::t)
 |[]=>some []
def kC(v:UInt8->ag->Option ag):ag->Option ag
 |[]=>none
 |a::r=>
  if a=92 then(match r with
   |[]=>none
   |_::t=>some t)
  else if a=39 then aIR r
  else if a=34 then v 34 r
  else yG v a r
def aHk:Nat->(ag->Option ag)×(UInt8->ag->Option ag)
 |0=>(λ_=>none,λe s=>ju (λ_=>none) (λ_=>none) false e (s.length+1) s)
 |d+1=>(kC (aHk d).2,λe s=>ju (kC (aHk d).2) ((aHk d).2 41) true e (s.length+1) s)
def fU(d:Nat):ag->Option ag:=(aHk d).1
def dU(d:Nat)(e:UInt8):ag->Option ag:=(aHk d).2 e
def K0:∀{s t:ag},aIR s=some t->t.length<s.length
 |a::r,t,h=>by
  simp only[aIR]at h;split at h
  .obtain rfl:=bU h;simp
  .have:=K0 h;simp;omega
def tq(f:ag->Option ag):Prop:=∀s t,f s=some t->t.length<s.length
def Gu{u q:ag->Option ag}{ok:Bool}{e:UInt8}(hu:tq u)(hq:tq q):∀n,tq (ju u q ok e n)
 |0=>λs t h=>by cases h
 |n+1=>by
  intro s t h;cases s with
  |nil=>cases h
  |cons c r=>
   simp only[ju]at h;split at h
   .obtain rfl:=bU h;simp
   .split at h
    .split at h
     .have:=Gu hu hq n _ _ h;simp;omega
     .cases h
    .split at h
     .split at h
      .split at h
       .rename_i t' ht
        have h1:=hq _ _ ht;have h2:=Gu hu hq n _ _ h;simp;omega
       .cases h
      .cases h
     .split at h
      .rename_i t' ht
       have h1:=hu _ _ ht;have h2:=Gu hu hq n _ _ h;omega
      .cases h
def aam{v:UInt8->ag->Option ag}(hv:∀e,tq (v e)):tq (kC v):=by
 intro s t h;cases s with
 |nil=>cases h
 |cons a r=>
  simp only[kC]at h;split at h
  .cases r with
   |nil=>cases h
   |cons b r=>obtain rfl:=bU h;simp;omega
  .split at h
   .have:=K0 h;simp;omega
   .split at h
    .have:=hv _ _ _ h;simp;omega
    .cases r with
     |nil=>obtain rfl:=bU h;simp
     |cons b r=>
      simp only[yG]at h;split at h
      .have:=hv _ _ _ h;simp;omega
      .split at h
       .have:=hv _ _ _ h;simp;omega
       .obtain rfl:=bU h;simp
def GQ:∀d,tq (aHk d).1/\∀e,tq ((aHk d).2 e)
 |0=>by refine⟨λs t h=>(by cases h),λe s t h=>?_⟩;exact Gu (λs t h=>by cases h) (λs t h=>by cases h) _ _ _ h
 |d+1=>by have ih:=GQ d;have hu:tq (kC (aHk d).2):=aam ih.2;exact⟨hu,λe s t h=>Gu hu (ih.2 41) _ _ _ h⟩
def Lv{u q:ag->Option ag}{ok:Bool}{e:UInt8}(hu:tq u)(hq:tq q):∀(n m:Nat) (s:ag),s.length<n->s.length<m->ju u q ok e n s=ju u q ok e m s
 |0,_,_,h,_=>by omega
 |_,0,_,_,h=>by omega
 |n+1,m+1,[],_,_=>rfl
 |n+1,m+1,c::r,hn,hm=>by
  simp only[bf]at hn hm;simp only[ju];rw[Lv hu hq n m r (by omega) (by omega)];have e1:(match q r with|some t=>ju u q ok e n t|none=>none)=(match q r with|some t=>ju u q ok e m t|none=>none):=by
   cases WG:q r with
   |none=>rfl
   |some t=>have:=hq _ _ WG;exact Lv hu hq n m t (by omega) (by omega)
  have e2:(match u (c::r)with|some t=>ju u q ok e n t|none=>none)=(match u (c::r)with|some t=>ju u q ok e m t|none=>none):=by
   cases WH:u (c::r)with
   |none=>rfl
   |some t=>have:=hu _ _ WH;simp only[bf]at this;exact Lv hu hq n m t (by omega) (by omega)
  rw[e1,e2]
def wJ(d:Nat):tq (fU d):=(GQ d).1
def Aa(d:Nat)(e:UInt8):tq (dU d e):=(GQ d).2 e
def aaX(s:ag):fU 0 s=none:=rfl
def aqL(d:Nat)(e:UInt8):dU d e []=none:=by cases d<;>rfl
def GA(d:Nat)(e c:UInt8)(r:ag):dU d e (c::r)=
  if c=e then some r
  else if e=34/\c=39 then(if d=0 then none else dU d e r)
  else if e=41/\c=40 then(if d=0 then none else(dU (d-1) 41 r).bind (dU d e))
  else(fU d (c::r)).bind (dU d e):=by
 cases d with
 |zero=>show ju (λ_=>none) (λ_=>none) false e (r.length+1+1) (c::r)=_;simp only[ju,kV,iV,nu,aaX,Option.bind_none]
 |succ d=>
  have hu:=aam (GQ d).2;have hq:=(GQ d).2 41;show ju (kC (aHk d).2) ((aHk d).2 41) true e (r.length+1+1) (c::r)=_
  have next:∀t:ag,t.length<r.length+1->ju (kC (aHk d).2) ((aHk d).2 41) true e (r.length+1) t=dU (d+1) e t:=λt ht=>Lv hu hq _ _ _ ht (aHP _);simp only[ju,nu,Nat.succ_ne_zero,iV,Qt];rw[next r (aHP _)];have e1:(match(aHk d).2 41 r with|some t=>ju (kC (aHk d).2) ((aHk d).2 41) true e (r.length+1) t|none=>none)=(dU d 41 r).bind (dU (d+1) e):=by
   show(match dU d 41 r with|some t=>ju (kC (aHk d).2) ((aHk d).2 41) true e (r.length+1) t|none=>none)=_;cases WG:dU d 41 r with
   |none=>rfl
   |some t=>have:=Aa d 41 _ _ WG;exact next t (by omega)
  have e2:(match kC (aHk d).2 (c::r)with|some t=>ju (kC (aHk d).2) ((aHk d).2 41) true e (r.length+1) t|none=>none)=(fU (d+1) (c::r)).bind (dU (d+1) e):=by
   show(match fU (d+1) (c::r)with|some t=>ju (kC (aHk d).2) ((aHk d).2 41) true e (r.length+1) t|none=>none)=_;cases WH:fU (d+1) (c::r)with
   |none=>rfl
   |some t=>have:=wJ (d+1) _ _ WH;simp only[bf]at this;exact next t (by omega)
  rw[e1,e2]
def Ends(f:ag->Option ag):Prop:=∀s t,f s=some t->t<:+s
def wS{a:UInt8}{t r:ag}(h:t<:+r):t<:+a::r:=h.trans (ue a r)
def ZI:Ends aIR
 |a::r,t,h=>by
  simp only[aIR]at h;split at h
  .obtain rfl:=bU h;exact ue _ _
  .exact wS (ZI r t h)
def GB{u q:ag->Option ag}{ok:Bool}{e:UInt8}(hu:Ends u)(hq:Ends q):∀n,Ends (ju u q ok e n)
 |0=>λs t h=>by cases h
 |n+1=>by
  intro s t h;cases s with
  |nil=>cases h
  |cons c r=>
   simp only[ju]at h;split at h
   .obtain rfl:=bU h;exact ue _ _
   .split at h
    .split at h
     .exact wS (GB hu hq n _ _ h)
     .cases h
    .split at h
     .split at h
      .split at h
       .rename_i t' ht
        exact wS ((GB hu hq n _ _ h).trans (hq _ _ ht))
       .cases h
      .cases h
     .split at h
      .rename_i t' ht
       exact(GB hu hq n _ _ h).trans (hu _ _ ht)
      .cases h
def aqM{v:UInt8->ag->Option ag}(hv:∀e,Ends (v e)):Ends (kC v):=by
 intro s t h;cases s with
 |nil=>cases h
 |cons a r=>
  simp only[kC]at h;split at h
  .cases r with
   |nil=>cases h
   |cons b r=>obtain rfl:=bU h;exact wS (ue _ _)
  .split at h
   .exact wS (ZI _ _ h)
   .split at h
    .exact wS (hv _ _ _ h)
    .cases r with
     |nil=>obtain rfl:=bU h;exact ue _ _
     |cons b r=>
      simp only[yG]at h;split at h
      .exact wS (wS (hv _ _ _ h))
      .split at h
       .exact wS (wS (hv _ _ _ h))
       .obtain rfl:=bU h;exact ue _ _
def adb:∀d,Ends (aHk d).1/\∀e,Ends ((aHk d).2 e)
 |0=>⟨λs t h=>(by cases h),λe s t h=>GB (λs t h=>by cases h) (λs t h=>by cases h) _ _ _ h⟩
 |d+1=>by have ih:=adb d;have hu:Ends (kC (aHk d).2):=aqM ih.2;exact⟨hu,λe s t h=>GB hu (ih.2 41) _ _ _ h⟩
def aqN(d:Nat):Ends (fU d):=(adb d).1
def ix(s:ag):Option ag->Int
 |some t=>((s.length-t.length:Nat):Int)
 |none=>-1
def pf(t q:ag):Bool:=decide (t.length<=q.length/\q.take t.length=t)
end Go.Proofs.YtihaaoehhgmphaaGreatDoor.L
namespace Go.Proofs.YtihaaoehhgmphaaGreatDoor.L
open IntKind
inductive Pt where
 |mk(k:Int)(q:Bool)(t n o:ag)(w:List Pt)
namespace Pt
def k:Pt->Int
 |.mk k _ _ _ _ _=>k
def q:Pt->Bool
 |.mk _ q _ _ _ _=>q
def t:Pt->ag
 |.mk _ _ t _ _ _=>t
def n:Pt->ag
 |.mk _ _ _ n _ _=>n
def o:Pt->ag
 |.mk _ _ _ _ o _=>o
def w:Pt->List Pt
 |.mk _ _ _ _ _ w=>w
end Pt
inductive Rs(α:Type)where
 |ok(a:α):Rs α
 |bad (e:Nat):Rs α
def Rs.and{α β:Type}(r:Rs α)(f:α->Rs β):Rs β:=match r with
 |.ok a=>f a
 |.bad e=>.bad e
def Rs.iJ{α β:Type}{r:Rs α}{f:α->Rs β}{b:β}(h:r.and f=.ok b):∃a,r=.ok a/\f a=.ok b:=by
 cases r with
 |bad k=>cases h
 |ok a=>exact⟨a,rfl,h⟩
def isLet(c:UInt8):Bool:=(decide (97<=c)&&decide (c<=122))||(decide (65<=c)&&decide (c<=90))||c==95
def qY(c:UInt8):Bool:=decide (48<=c)&&decide (c<=57)
def U2(c:UInt8):Bool:=isLet c||qY c
def UF(c:UInt8):Bool:=qY c||c==35||c==63||c==64||c==42
def bV:ag->Nat
 |[]=>0
 |c::r=>if isLet c=true then(r.takeWhile U2).length+1 else 0
def nU:ag->Nat
 |[]=>0
 |c::_=>if UF c=true then 1 else 0
def fP(l:List Pt)(p:Pt):List Pt:=match l.getLast? with
 |some x=>if p.k=0/\x.k=0/\x.q=p.q then l.dropLast++[.mk x.k x.q (x.t++p.t) x.n x.o x.w]else l++[p]
 |none=>l++[p]
def Hy(_:ag->Rs (List Pt))(_:Bool)(_:ag):Rs Pt:=.bad 90
def kg(P:ag->Rs (List Pt))(q:Bool)(s:ag):Rs (Pt×Nat):=
 if(s.drop 1).head?=some 40\/(s.drop 1).head?=some 123 then match fU 30 s with
  |none=>.bad 90
  |some t=>
   if(s.drop 1).head?=some 123 then(Hy P q ((s.drop 2).take (s.length-t.length-3))).and λp=>.ok (p,s.length-t.length)
   else if 4<s.length-t.length/\s[2]?=some 40/\s[s.length-t.length-2]?=some 41 then .ok (.mk 3 q ((s.drop 3).take (s.length-t.length-5)) [] [] [],s.length-t.length)
   else .ok (.mk 2 q ((s.drop 2).take (s.length-t.length-3)) [] [] [],s.length-t.length)
 else if 0<bV (s.drop 1)then .ok (.mk 1 q [] ((s.drop 1).take (bV (s.drop 1))) [] [],bV (s.drop 1)+1)
 else if 0<nU (s.drop 1)then .ok (.mk 1 q [] ((s.drop 1).take 1) [] [],2)
 else .ok (.mk 0 q [36] [] [] [],1)
def tx(q:Bool)(t:ag):Pt:=.mk 0 q t [] [] []
def nN(P:ag->Rs (List Pt))(s:ag):Rs (List Pt×Nat):=match s with
 |[]=>.bad 0
 |c::r=>
  if c=36 then(kg P true (c::r)).and λx=>.ok ([x.1],x.2)
  else if c=92/\(r.head?=some 36\/r.head?=some 96\/r.head?=some 34\/r.head?=some 92)then .ok ([tx true (r.take 1)],2)
  else .ok ([tx true [c]],1)
def aHr(one:ag->Rs (List Pt×Nat)):Nat->List Pt->ag->Rs (List Pt)
 |0,_,_=>.bad 0
 |_+1,acc,[]=>.ok acc
 |n+1,acc,c::r=>(one (c::r)).and λx=>aHr one n (x.1.foldl fP acc) ((c::r).drop x.2)
def qi(P:ag->Rs (List Pt))(s:ag):Rs (List Pt):=if s=[]then .ok [tx true []]else aHr (nN P) (s.length+1) [] s
def kO(P:ag->Rs (List Pt))(s:ag):Rs (List Pt×Nat):=match s with
 |[]=>.bad 0
 |c::r=>
  if c=36 then(kg P false (c::r)).and λx=>.ok ([x.1],x.2)
  else if c=92\/c=39\/c=34 then match fU 30 (c::r)with
   |none=>.bad 90
   |some t=>
    if c=92 then .ok ([tx true (r.take 1)],2)
    else if c=34 then(qi P (r.take (r.length-t.length-1))).and λl=>.ok (l,r.length+1-t.length)
    else .ok ([tx true (r.take (r.length-t.length-1))],r.length+1-t.length)
  else .ok ([tx false [c]],1)
def ef:Nat->ag->Rs (List Pt)
 |0,_=>.bad 2
 |L+1,s=>aHr (kO (ef L)) (s.length+1) [] s
abbrev agP:ag:=[108,101,110]
def single(s:ag):ag:=39::(s.flatMap λb=>if b=39 then[39,92,39,39]else[b])++[39]
def Ez(q:Bool)(s:ag):ag:=if q=true then 34::s++[34]else s
mutual
def Pt.pr:Pt->ag
 |.mk k q t n o w=>
  if k=0 then(if q=true then single t else t)
  else Ez q (if k=2 then[36,40]++t++[41]else if k=3 then[36,40,40]++t++[41,41]else if k=1 then(if o=agP then[36,123,35]++n++[125]else[36,123]++n++o++gQ w++[125])else[])
def gQ:List Pt->ag
 |[]=>[]
 |p::r=>p.pr++gQ r
end
def aaY:∀a b:List Pt,gQ (a++b)=gQ a++gQ b
 |[],_=>rfl
 |p::a,b=>by simp only[BX,gQ,aaY a b,aIi]
def aIS:∀s:ag,bV s<=s.length
 |[]=>aV _
 |c::r=>by
  have:(r.takeWhile U2).length<=r.length:=(List.takeWhile_sublist _).length_le;simp only[bV];split
  .simp only[bf];omega
  .exact dK _
def Tn:∀s:ag,nU s<=s.length
 |[]=>aV _
 |c::r=>by simp only[nU,bf];split<;>omega
def ab7(s:ag):nU s<=1:=by
 cases s with
 |nil=>exact dK _
 |cons c r=>simp only[nU];split<;>omega
def auy(l:List Pt)(p:Pt):(fP l p).length<=l.length+1:=by
 unfold fP;split
 .rename_i x hx
  have hne:l≠[]:=by rintro rfl;cases hx
  have:=mK.2 hne;split
  .simp only[cB,List.length_dropLast,bf,aHf];omega
  .simp
 .simp
def ade:∀(ps acc:List Pt),(ps.foldl fP acc).length<=acc.length+ps.length
 |[],acc=>aV _
 |p::ps,acc=>by have h1:=ade ps (fP acc p);have h2:=auy acc p;simp only[zZ,bf];omega
def AH(one:ag->Rs (List Pt×Nat)):Prop:=∀s x,one s=.ok x->0<x.2/\x.2<=s.length/\x.1.length<=x.2
def ZJ{P:ag->Rs (List Pt)}{q:Bool}{r:ag}{x:Pt×Nat}(h:kg P q (36::r)=.ok x):0<x.2/\x.2<=r.length+1:=by
 unfold kg at h;simp only[BU,KP]at h;split at h
 .split at h
  .cases h
  .rename_i t ht
   have h1:=wJ 30 _ _ ht;simp only[bf]at h1 h;split at h
   .obtain⟨p,_,h⟩:=Rs.iJ h
    injection h with h;rw[<-h];dsimp only;omega
   .split at h<;>(injection h with h;rw[<-h];dsimp only;omega)
 .split at h
  .injection h with h
   have:=aIS r;rw[<-h];dsimp only;omega
  .split at h
   .rename_i hs
    injection h with h;have:=Tn r;rw[<-h];dsimp only;omega
   .injection h with h
    rw[<-h];dsimp only;omega
def Gv(P:ag->Rs (List Pt)):AH (nN P):=by
 intro s x h;cases s with
 |nil=>cases h
 |cons c r=>
  simp only[nN]at h;split at h
  .rename_i hc
   subst hc;obtain⟨y,h1,h⟩:=Rs.iJ h;injection h with h;have:=ZJ h1;rw[<-h];exact⟨this.1,this.2,this.1⟩
  .split at h
   .rename_i hc
    injection h with h;rw[<-h];have:r≠[]:=by rintro rfl;rcases hc.2 with h|h|h|h<;>cases h
    have:=mK.2 this;simp only[bf,aHf];omega
   .injection h with h
    rw[<-h];simp only[bf,aHf];omega
def ab8{one:ag->Rs (List Pt×Nat)}(ho:AH one):∀(n:Nat) (acc:List Pt) (s:ag) (l:List Pt),aHr one n acc s=.ok l->l.length<=acc.length+s.length
 |0,_,_,_,h=>by cases h
 |n+1,acc,[],l,h=>by injection h with h;rw[h];exact BY _ _
 |n+1,acc,c::r,l,h=>by simp only[aHr]at h;obtain⟨x,h1,h⟩:=Rs.iJ h;have h2:=ho _ _ h1;have h3:=ab8 ho n _ _ _ h;have h4:=ade x.1 acc;rw[ig]at h3;omega
def aaZ{one:ag->Rs (List Pt×Nat)}(ho:AH one):∀(n m:Nat) (acc:List Pt) (s:ag),s.length<n->s.length<m->aHr one n acc s=aHr one m acc s
 |0,_,_,_,h,_=>by omega
 |_,0,_,_,_,h=>by omega
 |n+1,m+1,acc,[],_,_=>rfl
 |n+1,m+1,acc,c::r,h1,h2=>by
  simp only[aHr];cases h:one (c::r)with
  |bad e=>rfl
  |ok x=>have h3:=ho _ _ h;simp only[bf]at h1 h2 h3;exact aaZ ho n m _ _ (by rw[ig,bf];omega) (by rw[ig,bf];omega)
def auz{P:ag->Rs (List Pt)}{s:ag}{l:List Pt}(h:qi P s=.ok l):l.length<=s.length+1:=by
 unfold qi at h;split at h
 .injection h with h
  rw[<-h];simp
 .have:=ab8 (Gv P) _ _ _ _ h
  simp only[aHf]at this;omega
def R3(P:ag->Rs (List Pt)):AH (kO P):=by
 intro s x h;cases s with
 |nil=>cases h
 |cons c r=>
  simp only[kO]at h;split at h
  .rename_i hc
   subst hc;obtain⟨y,h1,h⟩:=Rs.iJ h;injection h with h;have:=ZJ h1;rw[<-h];exact⟨this.1,this.2,this.1⟩
  .split at h
   .split at h
    .cases h
    .rename_i hc t ht
     have h1:=wJ 30 _ _ ht;simp only[bf]at h1;split at h
     .rename_i kQ
      subst kQ;injection h with h;rw[<-h];have:r≠[]:=by rintro rfl;rw[show fU 30 [92]=none from rfl]at ht;cases ht
      have:=mK.2 this;simp only[bf,aHf];omega
     .have hq:∀u,c=39\/c=34->fU 30 (c::r)=some u->u.length+1<=r.length:=by
       intro u hc hu;rcases hc with rfl|rfl
       .have:aIR r=some u:=hu
        have:=K0 this;omega
       .have:dU 29 34 r=some u:=hu
        have:=Aa 29 34 _ _ this;omega
      rename_i kQ;have h2:=hq t (Or.resolve_left (by assumption) kQ) ht;split at h
      .obtain⟨l,h3,h⟩:=Rs.iJ h
       injection h with h;have h4:=auz h3;rw[aHl]at h4;rw[<-h];simp only[bf];omega
      .injection h with h
       rw[<-h];simp only[bf,aHf];omega
   .injection h with h
    rw[<-h];simp only[bf,aHf];omega
end Go.Proofs.YtihaaoehhgmphaaGreatDoor.L
namespace Go.Proofs.YtihaaoehhgmphaaGreatDoor
open IntKind Go.RowKit Vc
variable{w:World}
def D_(a:Addr)(i:Nat):(a.add i).block=a.block:=by unfold Addr.add;split<;>rfl
def wT{S:Nat->Prop}{w':World}(hm:Mod S w w'){a:Addr}{v:Value}(hn:¬S a.block)(h:w.cell? a=some v):w'.cell? a=some v:=
 (World.cell?_of_block (hm.block _ (World.block_lt_of_cell? _ _ h) hn)).trans h
def aS.cap{B:Nat}{e:TypeId}{size n:Nat}{v:Value}{xs:List Value}(h:aS w B e size v n xs):∃p c,v=.slice p n c/\n<=c:=by
 rcases h.2 with⟨rfl,rfl⟩|⟨g,cap,cur,rfl,_,_,hc,_⟩
 .exact⟨_,_,rfl,aV _⟩
 .exact⟨_,_,rfl,hc⟩
end Go.Proofs.YtihaaoehhgmphaaGreatDoor
namespace Go.Proofs.YtihaaoehhgmphaaGreatDoor.L
open IntKind Go.RowKit Vc
variable{w:World}
def gX(p:Pt)(v:Value):List Value:=[.int .i64 p.k,.bool p.q,.string (S p.t),.string (S p.n),.string (S p.o),v]
mutual
def oL(w:World)(F:Nat->Prop):Pt->Addr->Prop
 |.mk k q t n o l,a=>∃p c,(∀(j:Nat) (u:Value),(gX (.mk k q t n o l) (.slice p l.length c))[j]?=some u->w.cell? (a.add j)=some u)/\l.length<=c/\(l≠[]->∃b,p=some b/\F b.block/\gY w F l b)
def gY(w:World)(F:Nat->Prop):List Pt->Addr->Prop
 |[],_=>True
 |x::r,a=>oL w F x a/\gY w F r (a.add 6)
end
def cD(w:World)(F:Nat->Prop)(l:List Pt)(v:Value):Prop:=∃p c,v=.slice p l.length c/\l.length<=c/\(l≠[]->∃b,p=some b/\F b.block/\gY w F l b)
def oL.out{F:Nat->Prop}{x:Pt}{a:Addr}(h:oL w F x a):∃v,(∀(j:Nat) (u:Value),(gX x v)[j]?=some u->w.cell? (a.add j)=some u)/\cD w F x.w v:=by
 cases x with
 |mk k q t n o l=>simp only[oL]at h;obtain⟨p,c,h1,h2,h3⟩:=h;exact⟨_,h1,p,c,rfl,h2,h3⟩
def oL.of{F:Nat->Prop}{x:Pt}{a:Addr}{v:Value}(h:∀(j:Nat) (u:Value),(gX x v)[j]?=some u->w.cell? (a.add j)=some u)(hs:cD w F x.w v):oL w F x a:=by
 cases x with
 |mk k q t n o l=>obtain⟨p,c,rfl,h2,h3⟩:=hs;simp only[oL];exact⟨p,c,h,h2,h3⟩
def gY.get{F:Nat->Prop}:∀{l:List Pt} {a:Addr} {i:Nat} {x:Pt},gY w F l a->l[i]?=some x->oL w F x (a.add (i*6))
 |y::r,a,0,x,h,hx=>by
  obtain rfl:=bU hx;simp only[gY]at h;have e:a.add (0*6)=a:=by unfold Addr.add;simp
  rw[e];exact h.1
 |y::r,a,i+1,x,h,hx=>by simp only[gY]at h;have:=gY.get (i:=i) h.2 (by simpa using hx);rw[aIC]at this;rwa[show(i+1)*6=6+i*6 by omega]
def gY.of{F:Nat->Prop}:∀{l:List Pt} {a:Addr},(∀i x,l[i]?=some x->oL w F x (a.add (i*6)))->gY w F l a
 |[],a,h=>by simp only[gY]
 |y::r,a,h=>by
  simp only[gY];refine⟨?_,gY.of λi x hx=>?_⟩
  .have:=h 0 y rfl
   have e:a.add (0*6)=a:=by unfold Addr.add;simp
   rwa[e]at this
  .rw[aIC]
   have:=h (i+1) x (by simpa using hx);rwa[show(i+1)*6=6+i*6 by omega]at this
mutual
def oL.dN{F G:Nat->Prop}{w':World}(hF:∀k,F k->G k)(hw:∀a v,(∃k,F k/\a.block=k)->w.cell? a=some v->w'.cell? a=some v):∀{x:Pt} {a:Addr},oL w F x a->F a.block->oL w' G x a
 |.mk k q t n o l,a,h,hb=>by simp only[oL]at h⊢;obtain⟨p,c,h1,h2,h3⟩:=h;refine⟨p,c,λj u hu=>hw _ _ ⟨_,hb,D_ a j⟩ (h1 j u hu),h2,λhl=>?_⟩;obtain⟨b,rfl,h4,h5⟩:=h3 hl;exact⟨b,rfl,hF _ h4,gY.dN hF hw h5 h4⟩
def gY.dN{F G:Nat->Prop}{w':World}(hF:∀k,F k->G k)(hw:∀a v,(∃k,F k/\a.block=k)->w.cell? a=some v->w'.cell? a=some v):∀{l:List Pt} {a:Addr},gY w F l a->F a.block->gY w' G l a
 |[],a,h,hb=>by simp only[gY]
 |x::r,a,h,hb=>by simp only[gY]at h⊢;exact⟨oL.dN hF hw h.1 hb,gY.dN hF hw h.2 (by rw[D_];exact hb)⟩
end
def cD.dN{F G:Nat->Prop}{w':World}(hF:∀k,F k->G k)(hw:∀a v,(∃k,F k/\a.block=k)->w.cell? a=some v->w'.cell? a=some v){l:List Pt}{v:Value}(h:cD w F l v):cD w' G l v:=by obtain⟨p,c,rfl,h2,h3⟩:=h;refine⟨p,c,rfl,h2,λhl=>?_⟩;obtain⟨b,rfl,h4,h5⟩:=h3 hl;exact⟨b,rfl,hF _ h4,gY.dN hF hw h5 h4⟩
def cD.mono{F G:Nat->Prop}(hF:∀k,F k->G k){l:List Pt}{v:Value}(h:cD w F l v):cD w G l v:=h.dN hF (λ_ _ _ h=>h)
def cD.any{F:Nat->Prop}{l:List Pt}{v:Value}(h:cD w F l v):cD w (λ_=>True) l v:=h.mono λ_ _=>trivial
def cD.mod{F S:Nat->Prop}{w':World}{l:List Pt}{v:Value}(h:cD w F l v)(hm:Mod S w w')(hS:∀k,F k->¬S k):cD w' F l v:=
 h.dN (λ_ h=>h) λa v ⟨k,hk,e⟩ hc=>wT hm (by rw[e];exact hS k hk) hc
def cD.still{F:Nat->Prop}{w':World}{l:List Pt}{v:Value}(h:cD w F l v)(hm:Still w w'):cD w' F l v:=h.mod hm λ_ _ h=>h
def cD.nil(w:World)(F:Nat->Prop)(p:Option Addr)(c:Nat):cD w F [] (.slice p 0 c):=⟨p,c,rfl,dK _,λh=>absurd rfl h⟩
def cD.here{F:Nat->Prop}{l:List Pt}{v:Value}(h:cD w F l v):cD w (λk=>F k/\k<w.heap.size) l v:=by
 have key:∀n,∀l:List Pt,SizeOf.sizeOf l<n->∀b,gY w F l b->F b.block->l≠[]->(b.block<w.heap.size/\gY w (λk=>F k/\k<w.heap.size) l b):=by
  intro n
  induction n with
  |zero=>intro l h;omega
  |succ n ih=>
   intro l hl b hp hb hne;have cell0:b.block<w.heap.size:=by obtain⟨x,r,rfl⟩:=aJj hne;simp only[gY]at hp;obtain⟨v,hc,_⟩:=hp.1.out;have:=World.block_lt_of_cell? _ _ (hc 0 _ rfl);rwa[D_]at this
   refine⟨cell0,gY.of λi x hx=>?_⟩;obtain⟨v,hc,hs⟩:=(hp.get hx).out;refine oL.of hc ?_;obtain⟨p,c,rfl,h2,h3⟩:=hs;refine⟨p,c,rfl,h2,λjQ=>?_⟩;obtain⟨b2,rfl,h4,h5⟩:=h3 jQ;have hm:=Ym (aJk hx);have hx2:SizeOf.sizeOf x.w<SizeOf.sizeOf x:=by cases x;simp only[Pt.w,Pt.mk.sizeOf_spec];omega
   have:=ih x.w (by omega) b2 h5 h4 jQ;exact⟨b2,rfl,⟨h4,this.1⟩,this.2⟩
 obtain⟨p,c,rfl,h2,h3⟩:=h;refine⟨p,c,rfl,h2,λhl=>?_⟩;obtain⟨b,rfl,h4,h5⟩:=h3 hl;have:=key _ l (aHP _) b h5 h4 hl;exact⟨b,rfl,⟨h4,this.1⟩,this.2⟩
def cD.get{F:Nat->Prop}{l:List Pt}{p:Option Addr}{n c:Nat}(h:cD w F l (.slice p n c)){i:Nat}{x:Pt}(hx:l[i]?=some x):
  ∃b v,p=some b/\F b.block/\(∀(j:Nat) (u:Value),(gX x v)[j]?=some u->w.cell? ((b.add (i*6)).add j)=some u)/\cD w F x.w v:=by
 obtain⟨p',c',he,h2,h3⟩:=h;injection he with e1 e2 e3;subst e1 e2 e3;have hl:l≠[]:=by rintro rfl;cases hx
 obtain⟨b,rfl,h4,h5⟩:=h3 hl;obtain⟨v,h6,h7⟩:=(h5.get hx).out;exact⟨b,v,rfl,h4,h6,h7⟩
def cD.len{F:Nat->Prop}{l:List Pt}{p:Option Addr}{n c:Nat}(h:cD w F l (.slice p n c)):n=l.length/\l.length<=c:=by obtain⟨p',c',he,h2,h3⟩:=h;injection he with e1 e2 e3;subst e3;exact⟨e2,h2⟩
def cD.form{F:Nat->Prop}{l:List Pt}{v:Value}(h:cD w F l v):∃p c,v=.slice p l.length c:=by obtain⟨p,c,he,_⟩:=h;exact⟨p,c,he⟩
def Cs(w:World)(F:Nat->Prop):List Pt->List Value->Prop
 |[],xs=>xs=[]
 |x::r,xs=>∃v ys,xs=gX x v++ys/\cD w F x.w v/\Cs w F r ys
def Cs.len{F:Nat->Prop}:∀{l:List Pt} {xs:List Value},Cs w F l xs->xs.length=l.length*6
 |[],xs,h=>by rw[show xs=[]from h];rfl
 |x::r,xs,⟨v,ys,h1,h2,h3⟩=>by have:=h3.len;rw[h1];simp only[cB,gX,bf,aHf,this];omega
def ab9{x:Pt}{v:Value}(hv:v.oneCell'=true):∀u∈gX x v,u.oneCell'=true:=by intro u hu;simp only[gX,aHs,uf,uj]at hu;rcases hu with rfl|rfl|rfl|rfl|rfl|rfl<;>first|rfl|exact hv
def cD.one{F:Nat->Prop}{l:List Pt}{v:Value}(h:cD w F l v):v.oneCell'=true:=by obtain⟨p,c,rfl,_⟩:=h;rfl
def Cs.one{F:Nat->Prop}:∀{l:List Pt} {xs:List Value},Cs w F l xs->∀u∈xs,u.oneCell'=true
 |[],xs,h=>by rw[show xs=[]from h];simp
 |x::r,xs,⟨v,ys,h1,h2,h3⟩=>by
  intro u hu;rw[h1]at hu;rcases kW.1 hu with hu|hu
  .exact ab9 h2.one u hu
  .exact h3.one u hu
def Cs.dN{F G:Nat->Prop}{w':World}(hf:∀{l:List Pt} {v:Value},cD w F l v->cD w' G l v):∀{l:List Pt} {xs:List Value},Cs w F l xs->Cs w' G l xs
 |[],xs,h=>h
 |x::r,xs,⟨v,ys,h1,h2,h3⟩=>⟨v,ys,h1,hf h2,h3.dN hf⟩
def Cs.append{F:Nat->Prop}:∀{l m:List Pt} {xs ys:List Value},Cs w F l xs->Cs w F m ys->Cs w F (l++m) (xs++ys)
 |[],m,xs,ys,h,k=>by rw[show xs=[]from h];exact k
 |x::r,m,xs,ys,⟨v,zs,h1,h2,h3⟩,k=>⟨v,zs++ys,by rw[h1,aIi],h2,h3.append k⟩
def Cs.snoc{F:Nat->Prop}{l:List Pt}{xs:List Value}{x:Pt}{v:Value}(h:Cs w F l xs)(hv:cD w F x.w v):Cs w F (l++[x]) (xs++gX x v):=
 h.append ⟨v,[],by simp,hv,rfl⟩
def Cs.split{F:Nat->Prop}:∀{l m:List Pt} {xs:List Value},Cs w F (l++m) xs->∃ys zs,xs=ys++zs/\Cs w F l ys/\Cs w F m zs
 |[],m,xs,h=>⟨[],xs,rfl,rfl,h⟩
 |x::r,m,xs,h=>by obtain⟨v,us,h1,h2,h3⟩:∃v us,xs=gX x v++us/\cD w F x.w v/\Cs w F (r++m) us:=h;obtain⟨ys,zs,h4,h5,h6⟩:=h3.split;exact⟨gX x v++ys,zs,by rw[h1,h4,aIi],⟨v,ys,rfl,h2,h5⟩,h6⟩
def Cs.last{F:Nat->Prop}{l:List Pt}{x:Pt}{xs:List Value}(h:Cs w F (l++[x]) xs):∃ys v,xs=ys++gX x v/\Cs w F l ys/\cD w F x.w v:=by obtain⟨ys,zs,h1,h2,v,us,h3,h4,h5⟩:=h.split;have h5:us=[]:=h5;subst h5;exact⟨ys,v,by rw[h1,h3,ug],h2,h4⟩
def Cs.at{F:Nat->Prop}:∀{l:List Pt} {xs:List Value} {a:Addr},Cs w F l xs->(∀(j:Nat) (u:Value),xs[j]?=some u->w.cell? (a.add j)=some u)->gY w F l a
 |[],xs,a,h,hc=>by simp only[gY]
 |x::r,xs,a,⟨v,ys,h1,h2,h3⟩,hc=>by
  simp only[gY];have e:(gX x v).length=6:=rfl;refine⟨oL.of (λj u hu=>hc j u ?_) h2,h3.at λj u hu=>?_⟩
  .rw[h1,x_]
   .exact hu
   .exact(iU.1 hu).1
  .rw[aIC]
   refine hc _ u ?_;rw[h1,aJY (by rw[e];omega),e,BM];exact hu
def Cs.to{F:Nat->Prop}{l:List Pt}:∀{a:Addr},gY w F l a->∃xs,Cs w F l xs/\∀(j:Nat) (u:Value),xs[j]?=some u->w.cell? (a.add j)=some u:=by
 induction l with
 |nil=>intro a _;exact⟨[],rfl,λj u hu=>by simp at hu⟩
 |cons x r ih=>
  intro a h;simp only[gY]at h;obtain⟨v,h1,h2⟩:=h.1.out;obtain⟨xs,h3,h4⟩:=ih h.2;refine⟨gX x v++xs,⟨v,xs,rfl,h2,h3⟩,λj u hu=>?_⟩;have e:(gX x v).length=6:=rfl
  by_cases hj:j<6
  .rw[x_ (by rw[e];exact hj)]at hu
   exact h1 j u hu
  .rw[aJY (by rw[e];omega),e]at hu
   have:=h4 _ u hu;rwa[aIC,show 6+(j-6)=j by omega]at this
def iq(w:World)(B:Nat)(l:List Pt)(v:Value):Prop:=∃p c xs,v=.slice p l.length c/\aS w B 51 6 v l.length xs/\Cs w (λk=>B<=k/\k<w.heap.size/\v.ownBlock≠some k) l xs
def iq.nil(w:World)(B:Nat):iq w B [] (.slice none 0 0):=⟨none,0,[],rfl,aS.nil _ _ _ _,rfl⟩
def iq.sl{B:Nat}{l:List Pt}{v:Value}(h:iq w B l v):cD w (λk=>B<=k/\k<w.heap.size) l v:=by obtain⟨p,c,xs,rfl,ho,hc⟩:=h;obtain⟨p',c',he,hle⟩:=ho.cap;injection he with _ _ e3;subst e3;refine⟨p,c,rfl,hle,λhl=>?_⟩;have hn:0<l.length:=mK.2 hl;obtain⟨g,cap,he,hB,hg,_,hcell⟩:=ho.Ax hn;injection he with e1 e2 e3;subst e1;refine⟨_,rfl,⟨hB,hg⟩,(hc.dN λh=>h.mono λk hk=>⟨hk.1,hk.2.1⟩).at λj u hu=>?_⟩;rw[aHa,cQ];exact hcell j u hu
def iq.mod{S:Nat->Prop}{w':World}{B:Nat}{l:List Pt}{v:Value}(h:iq w B l v)(hm:Mod S w w')(hS:∀k,B<=k->k<w.heap.size->¬S k):iq w' B l v:=by obtain⟨p,c,xs,rfl,ho,hc⟩:=h;refine⟨p,c,xs,rfl,ho.mod hm λk hk=>hS k (ho.lt k hk).1 (ho.lt k hk).2,hc.dN λh=>(h.mod hm λk hk=>hS k hk.1 hk.2.1).mono λk hk=>⟨hk.1,aH2 hk.2.1 hm.size,hk.2.2⟩⟩
def iq.still{w':World}{B:Nat}{l:List Pt}{v:Value}(h:iq w B l v)(hm:Still w w'):iq w' B l v:=h.mod hm λ_ _ _ h=>h
end Go.Proofs.YtihaaoehhgmphaaGreatDoor.L
namespace Go.Proofs.YtihaaoehhgmphaaGreatDoor.L
open IntKind
def Mg(x p:Pt):Prop:=p.k=0/\x.k=0/\x.q=p.q
def auA(p:Pt):fP [] p=[p]:=rfl
def LO(l:List Pt)(x p:Pt):fP (l++[x]) p=if p.k=0/\x.k=0/\x.q=p.q then l++[.mk x.k x.q (x.t++p.t) x.n x.o x.w]else l++[x]++[p]:=by unfold fP;simp
def Mf{l:List Pt}(h:l≠[]):∃m x,l=m++[x]:=⟨l.dropLast,l.getLast h,(List.dropLast_concat_getLast h).symm⟩
def Norm:List Pt->Prop
 |[]=>True
 |[_]=>True
 |a::b::r=>¬Mg a b/\Norm (b::r)
def Norm.tail{a:Pt}{r:List Pt}(h:Norm (a::r)):Norm r:=by
 cases r with
 |nil=>trivial
 |cons b r=>exact h.2
def Norm.snoc:∀{l:List Pt} {x p:Pt},Norm (l++[x])->¬Mg x p->Norm (l++[x]++[p])
 |[],x,p,_,h=>⟨h,trivial⟩
 |[a],x,p,h,h2=>⟨h.1,h2,trivial⟩
 |a::b::l,x,p,h,h2=>⟨h.1,Norm.snoc (l:=b::l) h.2 h2⟩
def Norm.left:∀{l m:List Pt},Norm (l++m)->Norm l
 |[],_,_=>trivial
 |[a],_,_=>trivial
 |a::b::l,m,h=>⟨h.1,Norm.left (l:=b::l) h.2⟩
def Norm.right:∀{l m:List Pt},Norm (l++m)->Norm m
 |[],_,h=>h
 |a::l,m,h=>Norm.right (l:=l) (Norm.tail h)
def Norm.swap:∀{l:List Pt} {x y:Pt},Norm (l++[x])->x.k=y.k->x.q=y.q->Norm (l++[y])
 |[],x,y,_,_,_=>trivial
 |[a],x,y,h,h1,h2=>⟨λm=>h.1 ⟨by rw[h1];exact m.1,m.2.1,by rw[h2];exact m.2.2⟩,trivial⟩
 |a::b::l,x,y,h,h1,h2=>⟨h.1,Norm.swap (l:=b::l) h.2 h1 h2⟩
def Norm.add{l:List Pt}{p:Pt}(h:Norm l):Norm (fP l p):=by
 by_cases hl:l=[]
 .subst hl;trivial
 .obtain⟨m,x,rfl⟩:=Mf hl
  rw[LO];split
  .exact h.swap rfl rfl
  .rename_i hn
   exact h.snoc hn
def auB{p:Pt}{l:List Pt}(h:p∈l):SizeOf.sizeOf p.w<SizeOf.sizeOf l:=by
 have h1:=Ym h;have h2:SizeOf.sizeOf p.w<SizeOf.sizeOf p:=by cases p;simp only[Pt.w,Pt.mk.sizeOf_spec];omega
 omega
mutual
def Pt.wt:Pt->Nat
 |.mk _ _ t n o w=>4*t.length+n.length+o.length+8+cG w
def cG:List Pt->Nat
 |[]=>0
 |p::r=>p.wt+cG r
end
def Pt.vm(p:Pt):p.wt=4*p.t.length+p.n.length+p.o.length+8+cG p.w:=by cases p;simp only[Pt.wt,Pt.t,Pt.n,Pt.o,Pt.w]
def GG:∀a b:List Pt,cG (a++b)=cG a+cG b
 |[],b=>by simp[cG]
 |p::a,b=>by simp only[BX,cG,GG a b];omega
def T4(p:Pt):cG [p]=p.wt:=by simp[cG]
def aei{p:Pt}:∀{l:List Pt},p∈l->p.wt<=cG l
 |a::l,h=>by
  rcases aHs.1 h with rfl|h
  .simp only[cG];omega
  .have:=aei h
   simp only[cG];omega
def aKr:∀l:List Pt,8*l.length<=cG l
 |[]=>by simp
 |p::l=>by have h1:=aKr l;have h2:=p.vm;simp only[cG,bf];omega
def axc(l:List Pt)(p:Pt):cG (fP l p)<=cG l+p.wt:=by
 by_cases h:l=[]
 .subst h
  rw[auA];simp[cG]
 .obtain⟨m,x,rfl⟩:=Mf h
  rw[LO];split
  .have h1:=x.vm
   have h2:=p.vm;simp only[GG,T4,Pt.wt,cB];omega
  .simp only[GG,T4]
   omega
def Mh:∀(ps l:List Pt),cG (ps.foldl fP l)<=cG l+cG ps
 |[],l=>by simp[cG]
 |p::ps,l=>by have h1:=Mh ps (fP l p);have h2:=axc l p;simp only[zZ,cG];omega
def aa0(t:ag):(single t).length<=4*t.length+2:=by
 have:∀t:ag,(t.flatMap λb=>if b=39 then[39,92,39,39]else[b]).length<=4*t.length:=by
  intro t
  induction t with
  |nil=>simp
  |cons a t ih=>
   rw[pW,cB,bf];split
   .simp only[bf,aHf];omega
   .simp only[bf,aHf];omega
 have:=this t;simp only[single,bf,cB,aHf];omega
mutual
def Pt.afd:∀p:Pt,p.pr.length<=p.wt
 |.mk k q t n o w=>by
  have hw:=Ei w;have hs:=aa0 t;have hq:∀x:ag,(Ez q x).length<=x.length+2:=by
   intro x;unfold Ez;split
   .simp
   .omega
  simp only[Pt.pr,Pt.wt];split
  .split<;>omega
  .refine kJ (hq _) ?_
   split
   .simp;omega
   .split
    .simp;omega
    .split
     .split
      .simp;omega
      .simp;omega
     .simp only[aHf];omega
def Ei:∀l:List Pt,(gQ l).length<=cG l
 |[]=>by simp[gQ]
 |p::l=>by have h1:=p.afd;have h2:=Ei l;simp only[gQ,cG,cB];omega
end
def Bears(one:ag->Rs (List Pt×Nat)):Prop:=∀s x,one s=.ok x->cG x.1<=12*x.2
def Ep(P:ag->Rs (List Pt)):Prop:=∀s l,P s=.ok l->cG l<=12*s.length
def aqO{P:ag->Rs (List Pt)}(_:Ep P){q:Bool}{s:ag}{p:Pt}(h:Hy P q s=.ok p):p.wt<=12*s.length+12:=by cases h
def aa1{P:ag->Rs (List Pt)}(hP:Ep P){q:Bool}{r:ag}{x:Pt×Nat}(h:kg P q (36::r)=.ok x):x.1.wt<=12*x.2:=by
 unfold kg at h;simp only[BU,KP]at h;split at h
 .split at h
  .cases h
  .rename_i t ht
   have hh:r.head?=some 40\/r.head?=some 123:=by assumption
   have h1:t.length+3<=(36::r).length:=by
    obtain⟨c,r2,rfl⟩:∃c r2,r=c::r2:=by
     cases r with
     |nil=>rcases hh with e|e<;>cases e
     |cons c r2=>exact⟨c,r2,rfl⟩
    rcases hh with e|e
    .obtain rfl:c=40:=by simpa using e
     have ht:dU 29 41 r2=some t:=ht;have:=Aa _ _ _ _ ht;simp only[bf];omega
    .obtain rfl:c=123:=by simpa using e
     have ht:dU 29 125 r2=some t:=ht;have:=Aa _ _ _ _ ht;simp only[bf];omega
   split at h
   .obtain⟨p,h2,h⟩:=Rs.iJ h
    injection h with h;have h3:=aqO hP h2;rw[aHl]at h3;rw[<-h];dsimp only;omega
   .split at h
    .injection h with h
     rw[<-h];simp only[Pt.wt,cG,aHf,aHl];omega
    .injection h with h
     rw[<-h];simp only[Pt.wt,cG,aHf,aHl];omega
 .split at h
  .injection h with h
   have:=aIS r;rw[<-h];simp only[Pt.wt,cG,aHf,aHl];omega
  .split at h
   .injection h with h
    rw[<-h];simp only[Pt.wt,cG,aHf,aHl];omega
   .injection h with h
    rw[<-h];simp[Pt.wt,cG]
def yR(q:Bool)(t:ag):(tx q t).wt=4*t.length+8:=by simp[tx,Pt.wt,cG]
def aKI{one:ag->Rs (List Pt×Nat)}(ht:AH one)(hb:Bears one):∀(n:Nat) (acc:List Pt) (s:ag) (l:List Pt),aHr one n acc s=.ok l->cG l<=cG acc+12*s.length
 |0,_,_,_,h=>by cases h
 |n+1,acc,[],l,h=>by injection h with h;rw[h];exact BY _ _
 |n+1,acc,c::r,l,h=>by simp only[aHr]at h;obtain⟨x,h1,h⟩:=Rs.iJ h;have h2:=ht _ _ h1;have h3:=aKI ht hb n _ _ _ h;have h4:=Mh x.1 acc;have h5:=hb _ _ h1;rw[ig]at h3;omega
def ZX{P:ag->Rs (List Pt)}(hP:Ep P):Bears (nN P):=by
 intro s x h;cases s with
 |nil=>cases h
 |cons c r=>
  simp only[nN]at h;split at h
  .rename_i hc
   subst hc;obtain⟨y,h1,h⟩:=Rs.iJ h;injection h with h;have:=aa1 hP h1;rw[<-h];simpa[cG]using this
  .split at h
   .injection h with h
    rw[<-h];simp only[cG,yR,aHl];omega
   .injection h with h
    rw[<-h];simp[cG,yR]
def aej{P:ag->Rs (List Pt)}(hP:Ep P){s:ag}{l:List Pt}(h:qi P s=.ok l):cG l<=12*s.length+8:=by
 unfold qi at h;split at h
 .injection h with h
  rw[<-h];simp[cG,yR]
 .have:=aKI (Gv P) (ZX hP) _ _ _ _ h
  simp only[cG]at this;omega
def ab_{c:UInt8}{r t:ag}(hc:c=39\/c=34)(h:fU 30 (c::r)=some t):t.length+1<=r.length:=by
 rcases hc with rfl|rfl
 .have:aIR r=some t:=h
  have:=K0 this;omega
 .have:dU 29 34 r=some t:=h
  have:=Aa 29 34 _ _ this;omega
def ZY{P:ag->Rs (List Pt)}(hP:Ep P):Bears (kO P):=by
 intro s x h;cases s with
 |nil=>cases h
 |cons c r=>
  simp only[kO]at h;split at h
  .rename_i hc
   subst hc;obtain⟨y,h1,h⟩:=Rs.iJ h;injection h with h;have:=aa1 hP h1;rw[<-h];simpa[cG]using this
  .split at h
   .split at h
    .cases h
    .rename_i hc t ht
     split at h
     .injection h with h
      rw[<-h];simp only[cG,yR,aHl];omega
     .rename_i kQ
      have hq:=ab_ (Or.resolve_left (by assumption) kQ) ht;split at h
      .obtain⟨l,h3,h⟩:=Rs.iJ h
       injection h with h;have h4:=aej hP h3;rw[aHl]at h4;rw[<-h];dsimp only;omega
      .injection h with h
       rw[<-h];simp only[cG,yR,aHl];omega
   .injection h with h
    rw[<-h];simp[cG,yR]
def MF:∀L:Nat,Ep (ef L)
 |0=>λs l h=>by cases h
 |L+1=>λs l h=>by have:=aKI (R3 _) (ZY (MF L)) _ _ _ _ h;simpa[cG]using this
end Go.Proofs.YtihaaoehhgmphaaGreatDoor.L
namespace Go.Proofs.YtihaaoehhgmphaaGreatDoor.A
open IntKind Go.RowKit Vc
abbrev lt(a b:ag):Bool:=Op.bytesLess a b
def lt_irrefl:∀a:ag,lt a a=false
 |[]=>rfl
 |a::x=>by have:=lt_irrefl x;simp only[lt,Op.bytesLess]at this⊢;simp[this]
def lt_trans:∀{a b c:ag},lt a b=true->lt b c=true->lt a c=true
 |[],[],_,h,_=>by cases h
 |_::_,[],_,h,_=>by cases h
 |_,_::_,[],_,h=>by cases h
 |[],_::_,_::_,_,_=>rfl
 |a::x,b::y,c::z,h1,h2=>by
  simp only[lt,Op.bytesLess,KG,aHo,oC,B8]at h1 h2⊢;rcases h1 with h1|⟨rfl,h1⟩
  .rcases h2 with h2|⟨rfl,_⟩
   .exact .inl (UInt8.lt_trans h1 h2)
   .exact .inl h1
  .rcases h2 with h2|⟨rfl,h2⟩
   .exact .inl h2
   .exact .inr ⟨rfl,lt_trans (a:=x) (b:=y) h1 h2⟩
def MG:∀{a b:ag},lt a b=false->a≠b->lt b a=true
 |[],[],_,h=>absurd rfl h
 |[],_::_,h,_=>by cases h
 |_::_,[],_,_=>rfl
 |a::x,b::y,h,hn=>by
  simp only[lt,Op.bytesLess,P7,Dz,aJZ,Qg]at h;simp only[lt,Op.bytesLess,KG,aHo,oC,B8]
  by_cases hab:a=b
  .subst hab
   exact .inr ⟨rfl,MG (h.2.resolve_left λh=>h rfl) λe=>hn (by rw[e])⟩
  .rcases UInt8.lt_or_lt_of_ne hab with h'|h'
   .exact absurd h' h.1
   .exact .inl h'
def afe:∀a b:ag,decide (Go.Lib.compareBytes a b<0)=lt a b
 |[],[]=>rfl
 |[],_::_=>rfl
 |_::_,[]=>rfl
 |a::x,b::y=>by
  have ih:=afe x y;simp only[Go.Lib.compareBytes,lt,Op.bytesLess]
  by_cases h:a<b
  .simp[h]
  ·by_cases h':b<a
   .have:a≠b:=λe=>by subst e;exact h h'
    simp[h,h',this]
   .have:a=b:=YK (K1.1 h') (K1.1 h)
    subst this;simp only[h,iV,Ry,yh,BEq.rfl,B2];exact ih
def aek:∀a b:ag,decide (Go.Lib.compareBytes a b=0)=decide (a=b)
 |[],[]=>rfl
 |[],_::_=>rfl
 |_::_,[]=>rfl
 |a::x,b::y=>by
  have ih:=aek x y;simp only[Go.Lib.compareBytes]
  by_cases h:a<b
  .have:a≠b:=λe=>by subst e;exact UInt8.lt_irrefl _ h
   simp[h,this]
  ·by_cases h':b<a
   .have:a≠b:=λe=>by subst e;exact h h'
    simp[h,h',this]
   .have:a=b:=YK (K1.1 h') (K1.1 h)
    subst this;simp only[h,iV,List.cons.injEq,true_and];exact ih
def Cp(c:Int):Bool:=(decide (65<=c)&&decide (c<=90))||(decide (97<=c)&&decide (c<=122))||decide (c=95)
def aKb(c:Int):Bool:=decide (48<=c)&&decide (c<=57)
def letter(c:UInt8):Bool:=Cp (c.toNat:Int)
def digit(c:UInt8):Bool:=aKb (c.toNat:Int)
def bV(first:Bool):ag->Nat
 |[]=>0
 |c::r=>if(letter c||(!first&&digit c))=true then bV false r+1 else 0
def aIS:∀(b:Bool) (s:ag),bV b s<=s.length
 |_,[]=>aV _
 |b,c::r=>by have:=aIS false r;simp only[bV,bf];split<;>omega
def isName(s:ag):Bool:=!decide (s=[])&&decide (bV true s=s.length)
structure Vr where
 name:ag
 value:ag
 exp:Bool
 ro:Bool
deriving DecidableEq
def Vr.zero:Vr:=⟨[],[],false,false⟩
def l_(v:Vr):List Value:=[.string (S v.name),.string (S v.value),.bool v.exp,.bool v.ro]
def vcs(l:List Vr):List Value:=l.flatMap l_
def Sz(l m:List Vr):vcs (l++m)=vcs l++vcs m:=by simp[vcs]
def LB(l:List Vr):(vcs l).length=l.length*4:=by
 induction l with
 |nil=>rfl
 |cons a l ih=>have e:vcs (a::l)=l_ a++vcs l:=rfl;rw[e,cB,ih];simp[l_];omega
def asA(v:Vr):∀u∈l_ v,u.oneCell'=true:=by intro u hu;simp only[l_,aHs,uf,uj]at hu;rcases hu with rfl|rfl|rfl|rfl<;>rfl
def av5(l:List Vr):∀u∈vcs l,u.oneCell'=true:=by intro u hu;simp only[vcs,QS]at hu;obtain⟨x,_,hx⟩:=hu;exact asA x u hx
def ael:∀{l:List Vr} {i:Nat} {x:Vr},l[i]?=some x->(vcs l)[i*4]?=some (.string (S x.name))/\(vcs l)[i*4+1]?=some (.string (S x.value))/\(vcs l)[i*4+2]?=some (.bool x.exp)/\(vcs l)[i*4+3]?=some (.bool x.ro)
 |a::l,0,x,h=>by obtain rfl:=bU h;exact⟨rfl,rfl,rfl,rfl⟩
 |a::l,i+1,x,h=>by have ih:=ael (l:=l) (i:=i) (by simpa using h);rw[show(i+1)*4=i*4+4 by omega];exact ih
def pos(n:ag):List Vr->Nat
 |[]=>0
 |a::r=>if lt a.name n=true then pos n r+1 else 0
def get(n:ag):List Vr->Option Vr
 |[]=>none
 |a::r=>if lt a.name n=true then get n r else if a.name=n then some a else none
def ins(v:Vr):List Vr->List Vr
 |[]=>[v]
 |a::r=>if lt a.name v.name=true then a::ins v r else if a.name=v.name then v::r else v::a::r
def del(n:ag):List Vr->List Vr
 |[]=>[]
 |a::r=>if lt a.name n=true then a::del n r else if a.name=n then r else a::r
def UG(n:ag):∀l:List Vr,pos n l<=l.length
 |[]=>aV _
 |a::r=>by have:=UG n r;simp only[pos,bf];split<;>omega
def T5(n:ag):∀l:List Vr,get n l=(match l[pos n l]? with
  |some v=>if v.name=n then some v else none
  |none=>none)
 |[]=>rfl
 |a::r=>by
  have ih:=T5 n r;simp only[pos,get];split
  .rw[ih]
   simp
  ·rfl
def aff{n:ag}:∀{l:List Vr} {i:Nat} {v:Vr},l[i]?=some v->i<pos n l->lt v.name n=true
 |a::r,i,v,h,hi=>by
  simp only[pos]at hi;split at hi
  .cases i with
   |zero=>obtain rfl:=bU h;assumption
   |succ i=>exact aff (l:=r) (i:=i) (by simpa using h) (by omega)
  .omega
def UH{n:ag}:∀{l:List Vr} {v:Vr},l[pos n l]?=some v->lt v.name n=false
 |a::r,v,h=>by
  simp only[pos]at h;split at h
  .exact UH (l:=r) (by simpa using h)
  .obtain rfl:=bU h
   rename_i h';simpa using h'
def kZ(l:List Vr):Prop:=l.Pairwise λa b=>lt a.name b.name=true
def axd{n:ag}{l:List Vr}(hs:kZ l){i:Nat}{v:Vr}(h:l[i]?=some v)(hi:pos n l<=i):lt v.name n=false:=by
 rcases YC hi with e|hlt
 .rw[<-e]at h
  exact UH h
 .have hp:=aH2 hlt (K2 (iU.1 h).1)
  have h1:l[pos n l]?=some l[pos n l]:=gW hp;have h2:=UH h1;have hil:=(iU.1 h).1;have h3:=List.pairwise_iff_getElem.1 hs (pos n l) i hp hil hlt;rw[(iU.1 h).2]at h3;cases h4:lt v.name n with
  |false=>rfl
  |true=>rw[lt_trans h3 h4]at h2;cases h2
def put_eq(v:Vr):∀l:List Vr,l.take (pos v.name l)++[v]++l.drop (pos v.name l+if(get v.name l).isSome=true then 1 else 0)=ins v l
 |[]=>rfl
 |a::r=>by
  have ih:=put_eq v r;simp only[pos,get,ins];split
  .rw[<-ih,Nat.add_right_comm (pos _ _) 1,BU]
   rfl
  .split
   ·rfl
   ·rfl
def T6{v u:Vr}:∀{l:List Vr},u∈ins v l->u=v\/u∈l
 |[],h=>by simpa[ins]using h
 |a::r,h=>by
  simp only[ins]at h;split at h
  .rcases aHs.1 h with rfl|h
   .exact .inr Qu
   .exact(T6 h).imp id (BO _)
  .split at h
   .rcases aHs.1 h with rfl|h
    .exact .inl rfl
    .exact .inr (BO _ h)
   .rcases aHs.1 h with rfl|h
    .exact .inl rfl
    .exact .inr h
def aa2(v:Vr):∀{l:List Vr},kZ l->kZ (ins v l)
 |[],_=>by simp[ins,kZ]
 |a::r,h=>by
  have h1:=(F1.1 h).1;have h2:=(F1.1 h).2;simp only[ins];split
  .rename_i hlt
   refine F1.2 ⟨λu hu=>?_,aa2 v h2⟩;rcases T6 hu with rfl|hu
   .exact hlt
   .exact h1 u hu
  .split
   .rename_i he
    exact F1.2 ⟨λu hu=>he▸h1 u hu,h2⟩
   .rename_i hn he
    have Dc:lt v.name a.name=true:=MG (by simpa using hn) he;refine F1.2 ⟨λu hu=>?_,h⟩;rcases aHs.1 hu with rfl|hu
    .exact Dc
    .exact lt_trans Dc (h1 u hu)
def ZK(v:Vr){o:ag}(ho:o≠v.name):∀l:List Vr,get o (ins v l)=get o l
 |[]=>by simp[ins,get,yq ho]
 |a::r=>by
  have ih:=ZK v ho r;simp only[ins];split
  .simp only[get,ih]
  .split
   .rename_i he
    simp only[get,he,aG (yq ho)]
   .rename_i hn he
    have Dc:lt v.name a.name=true:=MG (by simpa using hn) he;rw[get];split;·rfl
    .rename_i hvo
     rw[aG (yq ho)];have hov:lt o v.name=true:=MG (by simpa using hvo) (yq ho);have aIH:=lt_trans hov Dc;rw[get,aG,aG]
     .rintro rfl
      rw[lt_irrefl]at aIH;cases aIH
     .intro h
      have:=lt_trans h aIH;rw[lt_irrefl]at this;cases this
def SA(v:Vr):∀l:List Vr,(ins v l).length=l.length+if(get v.name l).isSome=true then 0 else 1
 |[]=>rfl
 |a::r=>by
  have ih:=SA v r;simp only[ins,get];split
  .simp only[bf,ih]
   omega
  .split
   .simp
   .simp
def Tp{n:ag}:∀{l:List Vr} {v:Vr},get n l=some v->v.name=n/\v∈l
 |a::r,v,h=>by
  simp only[get]at h;split at h
  .exact⟨(Tp h).1,BO _ (Tp h).2⟩
  .split at h
   .obtain rfl:=bU h
    exact⟨by assumption,Qu⟩
   .cases h
def getD(n:ag)(l:List Vr):Vr:=(get n l).getD Vr.zero
def i_(l:List Vr)(n x:ag):List Vr×Int:=if isName n=true then(if(getD n l).ro=true then([],150)else(ins ⟨n,x,(getD n l).exp,(getD n l).ro⟩ l,0))else([],1)
def UI(c:UInt8):Bool:=c==32||c==9||c==10
def trim(s:ag):ag:=s.dropWhile UI
def aH6(s:ag):(trim s).length<=s.length:=by
 induction s with
 |nil=>exact aV _
 |cons c s ih=>
  unfold trim;rw[DE];split
  .exact kJ ih (by simp)
  .exact aV _
def Ea(s:ag):trim (trim s)=trim s:=by
 induction s with
 |nil=>rfl
 |cons c s ih=>
  unfold trim at ih⊢
  by_cases h:UI c=true
  .rw[DE,aL h]
   exact ih
  .rw[DE,aG h,DE,aG h]
def pg:List ag:=[[60,60],[62,62],[60,61],[62,61],[61,61],[33,61],[38,38],[124,124],[43,61],[45,61],[42,61],[47,61],[37,61],[43],[45],[42],[47],[37],[60],[62],[38],[124],[94],[63],[58],[61],[33],[126],[40],[41]]
def afX:List (List ag):=[[[124,124]],[[38,38]],[[124]],[[94]],[[38]],[[61,61],[33,61]],[[60],[60,61],[62],[62,61]],[[60,60],[62,62]],[[43],[45]],[[42],[47],[37]]]
def lv(l:Nat):List ag:=afX.getD l []
def aJp:List ag:=[[61],[43,61],[45,61],[42,61],[47,61],[37,61]]
def AI:List ag:=[[45],[43],[126],[33]]
def bT(s:ag):ag:=(pg.find? (λo=>o.isPrefixOf (trim s))).getD []
def qK(s:ag):bT (trim s)=bT s:=by unfold bT;rw[Ea]
def Tq{s:ag}(h:bT s≠[]):bT s∈pg/\(bT s).isPrefixOf (trim s)=true:=by
 unfold bT at h⊢;cases hf:pg.find? (λo=>o.isPrefixOf (trim s))with
 |none=>rw[hf]at h;exact absurd rfl h
 |some o=>exact⟨PG hf,Q5 (p:=λo:ag=>o.isPrefixOf (trim s)) hf⟩
def fT(s:ag):ag:=(trim s).drop (bT s).length
def Cj(s:ag):fT (trim s)=fT s:=by unfold fT;rw[Ea,qK]
def mM{s:ag}(h:bT s≠[]):(fT s).length<s.length:=by
 have h1:=aH6 s;have h2:=(Tq h).2;have h3:(bT s).length<=(trim s).length:=by rw[J6]at h2;exact h2.length_le
 have h4:0<(bT s).length:=mK.2 h;unfold fT;rw[ig];omega
def qp(s:ag):Option (ag×ag×ag):=
 let t:=trim s
 let n:=bV true t
 let r:=t.drop n
 if n≠0/\bT r∈aJp then some (t.take n,bT r,fT r)else none
def SR{o:ag}(h:o∈aJp):o≠[]:=by intro e;subst e;revert h;decide
def aem{s n o r:ag}(h:qp s=some (n,o,r)):r.length<s.length:=by
 unfold qp at h;dsimp only at h;split at h
 .rename_i hc
  injection h with h;injection h with h1 h2;injection h2 with h2 h3;rw[<-h3];have:=mM (SR hc.2);have:=aH6 s;rw[ig]at*;omega
 .cases h
inductive Tm where
 |num(n:Int)
 |vQ(x:ag)
 |tN(op:ag)(t:Tm)
 |bin(op:ag)(a b:Tm)
 |h_(c a b:Tm)
 |set(x op:ag)(t:Tm)
def AJ{t t':Tm}{s s':ag}(e:(Pr.ok (t,s):Pr (Tm×ag))=.ok (t',s')):s=s':=by injection e with e;injection e with _ e
inductive Md where
 |expr(d:Nat)
 |h_(d:Nat)
 |aHk(l d:Nat)
 |loop(l d:Nat)(a:Tm)
 |sig(d:Nat)
def Mi(c:UInt8):Bool:=letter c||digit c
def qZ(s:ag):Nat:=(s.takeWhile Mi).length
def adf(s:ag):qZ s<=s.length:=(List.takeWhile_prefix _).length_le
def qS(c:UInt8):Bool:=decide (48<=c.toNat)&&decide (c.toNat<=57)||decide (97<=c.toNat)&&decide (c.toNat<=102)||decide (65<=c.toNat)&&decide (c.toNat<=70)
def jJ(s:ag):Nat×ag:=match s with
 |a::b::c::r=>if a=48/\(b=120\/b=88)then(16,c::r)else if a=48 then(8,s)else(10,s)
 |[a,_]=>if a=48 then(8,s)else(10,s)
 |_=>(10,s)
def aIn(s:ag):Option Int:=if(jJ s).2.all qS=true then(match nM (jJ s).1 (jJ s).2 with|.ok n=>some n|.bad _=>none)else none
def vv(s:ag):Pr (Tm×ag):=
 let w:=s.take (qZ s)
 let r:=s.drop (qZ s)
 if isName w=true then .ok (.vQ w,r)else match aIn w with
  |some n=>.ok (.num n,r)
  |none=>.bad 130
abbrev Rs:=Option (Pr (Tm×ag))
def aIE(r:Rs)(f:Tm->ag->Rs):Rs:=match r with
 |none=>none
 |some (.bad k)=>some (.bad k)
 |some (.ok (t,s))=>f t s
def oF{r:Rs}{f:Tm->ag->Rs}{q:Pr (Tm×ag)}(h:aIE r f=some q):(∃k,r=some (.bad k)/\q=.bad k)\/∃t s,r=some (.ok (t,s))/\f t s=some q:=by
 unfold aIE at h;split at h
 .cases h
 .injection h with h
  exact .inl ⟨_,rfl,h.symm⟩
 .exact .inr ⟨_,_,rfl,h⟩
def ps:Nat->Md->ag->Rs
 |0,_,_=>none
 |f+1,.expr d,s=>if 30<d then some (.bad 2)else match qp s with
  |some (n,o,r)=>aIE (ps f (.expr (d+1)) r) λt r'=>some (.ok (.set n o.dropLast t,r'))
  |none=>ps f (.h_ d) (trim s)
 |f+1,.h_ d,s=>aIE (ps f (.aHk 0 d) s) λc r=>if bT r≠[63]then some (.ok (c,trim r))else
   aIE (ps f (.expr (d+1)) (fT r)) λa r2=>if bT r2≠[58]then some (.bad 130)else
    aIE (ps f (.h_ (d+1)) (fT r2)) λb r3=>some (.ok (.h_ c a b,r3))
 |f+1,.aHk l d,s=>if 10<=l then ps f (.sig d) s else aIE (ps f (.aHk (l+1) d) s) λa r=>ps f (.loop l d a) r
 |f+1,.loop l d a,s=>if bT s∈lv l then aIE (ps f (.aHk (l+1) d) (fT s)) λb r=>ps f (.loop l d (.bin (bT s) a b)) r else some (.ok (a,trim s))
 |f+1,.sig d,s=>if 30<d then some (.bad 2)else
   if bT s∈AI then aIE (ps f (.sig (d+1)) (fT s)) λt r=>some (.ok (.tN (bT s) t,r))else
   if bT s=[40]then aIE (ps f (.expr (d+1)) (fT s)) λt r=>if bT r≠[41]then some (.bad 130)else some (.ok (t,fT r))else
   some (vv (trim s))
def MH{o:ag}{l:Nat}(h:o∈lv l):o∈pg/\l<10:=by
 unfold lv at h
 by_cases hl:l<10
 .refine⟨?_,hl⟩
  have:∀l,l<10->∀o∈afX.getD l [],o∈pg:=by decide
  exact this l hl o h
 .rw[X6,t_ (by show 10<=l;omega)]at h
  cases h
def Ik{o:ag}{l:Nat}(h:o∈lv l):o≠[]:=by
 intro e;subst e;have:([]:ag)∉pg:=by decide
 exact this (MH h).1
def MI{o:ag}(h:o∈AI):o≠[]:=by intro e;subst e;revert h;decide
def mU:Md->Nat
 |.expr _=>40
 |.h_ _=>39
 |.aHk l _=>37-3*min l 11
 |.loop l _ _=>36-3*min l 11
 |.sig _=>1
def rO:∀(f:Nat) (m:Md) (s:ag),(∀l d a,m=.loop l d a->l<10)->50*s.length+mU m<f->∃r,ps f m s=some r/\∀t s',r=.ok (t,s')->s'.length<=s.length
 |0,_,_,_,h=>absurd h (Nat.not_lt_zero _)
 |f+1,.expr d,s,_,h=>by
  simp only[mU]at h;simp only[ps];split
  .exact⟨_,rfl,λ_ _ e=>by cases e⟩
  .split
   .rename_i n o r ha
    have hl:=aem ha;obtain⟨q,hq,aHG⟩:=rO f (.expr (d+1)) r (λ_ _ _ e=>by cases e) (by simp only[mU];omega);rw[hq];cases q with
    |bad k=>exact⟨_,rfl,λ_ _ e=>by cases e⟩
    |ok p=>obtain⟨t,r'⟩:=p;refine⟨_,rfl,λt' s' e=>?_⟩;obtain rfl:=AJ e;have:=aHG _ _ rfl;omega
   .have ht:=aH6 s
    obtain⟨q,hq,aHG⟩:=rO f (.h_ d) (trim s) (λ_ _ _ e=>by cases e) (by simp only[mU];omega);exact⟨q,hq,λt s' e=>kJ (aHG t s' e) ht⟩
 |f+1,.h_ d,s,_,h=>by
  simp only[mU]at h;simp only[ps];obtain⟨q,hq,aHG⟩:=rO f (.aHk 0 d) s (λ_ _ _ e=>by cases e) (by simp only[mU];omega);rw[hq];cases q with
  |bad k=>exact⟨_,rfl,λ_ _ e=>by cases e⟩
  |ok p=>
   obtain⟨c,r⟩:=p;have h1:=aHG _ _ rfl;simp only[aIE];split
   .refine⟨_,rfl,λt' s' e=>?_⟩
    obtain rfl:=AJ e;have:=aH6 r;omega
   .rename_i ho
    have ho:bT r=[63]:=yb.1 ho;have h2:=mM (s:=r) (by rw[ho];decide);obtain⟨q,hq,aHG⟩:=rO f (.expr (d+1)) (fT r) (λ_ _ _ e=>by cases e) (by simp only[mU];omega);rw[hq];cases q with
    |bad k=>exact⟨_,rfl,λ_ _ e=>by cases e⟩
    |ok p=>
     obtain⟨a,r2⟩:=p;have h3:=aHG _ _ rfl;dsimp only;split
     .exact⟨_,rfl,λ_ _ e=>by cases e⟩
     .rename_i cc
      have cc:bT r2=[58]:=yb.1 cc;have h4:=mM (s:=r2) (by rw[cc];decide);obtain⟨q,hq,aHG⟩:=rO f (.h_ (d+1)) (fT r2) (λ_ _ _ e=>by cases e) (by simp only[mU];omega);rw[hq];cases q with
      |bad k=>exact⟨_,rfl,λ_ _ e=>by cases e⟩
      |ok p=>obtain⟨b,r3⟩:=p;have h5:=aHG _ _ rfl;refine⟨_,rfl,λt' s' e=>?_⟩;obtain rfl:=AJ e;omega
 |f+1,.aHk l d,s,_,h=>by
  simp only[mU]at h;simp only[ps];split
  .exact rO f (.sig d) s (λ_ _ _ e=>by cases e) (by simp only[mU];omega)
  .rename_i hl
   obtain⟨q,hq,aHG⟩:=rO f (.aHk (l+1) d) s (λ_ _ _ e=>by cases e) (by simp only[mU];omega);rw[hq];cases q with
   |bad k=>exact⟨_,rfl,λ_ _ e=>by cases e⟩
   |ok p=>obtain⟨a,r⟩:=p;have h1:=aHG _ _ rfl;obtain⟨q,hq,aHG⟩:=rO f (.loop l d a) r (λl' _ _ e=>by injection e with e;omega) (by simp only[mU];omega);exact⟨q,hq,λt s' e=>kJ (aHG t s' e) h1⟩
 |f+1,.loop l d a,s,azl,h=>by
  simp only[mU]at h;simp only[ps];have hl:=azl l d a rfl;split
  .rename_i ho
   have h0:=mM (Ik ho);obtain⟨q,hq,aHG⟩:=rO f (.aHk (l+1) d) (fT s) (λ_ _ _ e=>by cases e) (by simp only[mU];omega);rw[hq];cases q with
   |bad k=>exact⟨_,rfl,λ_ _ e=>by cases e⟩
   |ok p=>obtain⟨b,r⟩:=p;have h1:=aHG _ _ rfl;obtain⟨q,hq,aHG⟩:=rO f (.loop l d (.bin (bT s) a b)) r (λl' _ _ e=>by injection e with e;omega) (by simp only[mU];omega);exact⟨q,hq,λt s' e=>by have:=aHG t s' e;omega⟩
  .refine⟨_,rfl,λt' s' e=>?_⟩
   obtain rfl:=AJ e;have:=aH6 s;omega
 |f+1,.sig d,s,_,h=>by
  simp only[mU]at h;simp only[ps];split
  .exact⟨_,rfl,λ_ _ e=>by cases e⟩
  .split
   .rename_i ho
    have h0:=mM (MI ho);obtain⟨q,hq,aHG⟩:=rO f (.sig (d+1)) (fT s) (λ_ _ _ e=>by cases e) (by simp only[mU];omega);rw[hq];cases q with
    |bad k=>exact⟨_,rfl,λ_ _ e=>by cases e⟩
    |ok p=>obtain⟨b,r⟩:=p;have h1:=aHG _ _ rfl;refine⟨_,rfl,λt' s' e=>?_⟩;obtain rfl:=AJ e;omega
   .split
    .rename_i ho
     have h0:=mM (s:=s) (by rw[ho];decide);obtain⟨q,hq,aHG⟩:=rO f (.expr (d+1)) (fT s) (λ_ _ _ e=>by cases e) (by simp only[mU];omega);rw[hq];cases q with
     |bad k=>exact⟨_,rfl,λ_ _ e=>by cases e⟩
     |ok p=>
      obtain⟨b,r⟩:=p;have h1:=aHG _ _ rfl;simp only[aIE];split
      .exact⟨_,rfl,λ_ _ e=>by cases e⟩
      .rename_i cc
       have cc:bT r=[41]:=yb.1 cc;have h4:=mM (s:=r) (by rw[cc];decide);refine⟨_,rfl,λt' s' e=>?_⟩;obtain rfl:=AJ e;omega
    .refine⟨_,rfl,λt' s' e=>?_⟩
     have ht:=aH6 s;unfold vv at e;dsimp only at e;split at e
     .obtain rfl:=AJ e
      rw[ig];omega
     .split at e
      .obtain rfl:=AJ e
       rw[ig];omega
      .cases e
def pI(c:UInt8):Nat:=if 48<=c.toNat/\c.toNat<=57 then c.toNat-48 else if 97<=c.toNat/\c.toNat<=102 then c.toNat-87 else if 65<=c.toNat/\c.toNat<=70 then c.toNat-55 else 99
def Ba(b:Nat):ag->Nat->Option Nat
 |[],n=>some n
 |c::s,n=>if b<=pI c\/(9223372036854775807-pI c)/b<n then none else Ba b s (n*b+pI c)
def auC{c:UInt8}(h:qS c=true):aID c=some (pI c)/\pI c<16:=by
 have key:∀n:Nat,n<256->(decide (48<=n)&&decide (n<=57)||decide (97<=n)&&decide (n<=102)||decide (65<=n)&&decide (n<=70))=true->
   (if 48<=n/\n<=57 then some (n-48)else if 97<=(n|||32)/\(n|||32)<=122 then some ((n|||32)-97+10)else none)=some (if 48<=n/\n<=57 then n-48 else if 97<=n/\n<=102 then n-87 else if 65<=n/\n<=70 then n-55 else 99)/\
   (if 48<=n/\n<=57 then n-48 else if 97<=n/\n<=102 then n-87 else if 65<=n/\n<=70 then n-55 else 99)<16:=by decide+kernel
 have:=key c.toNat c.toNat_lt h;unfold aID pI qh;rw[UInt8.toNat_or];exact this
def av6{c:UInt8}(h:qS c=false):pI c=99:=by unfold qS at h;simp only[P7,Dz,aJZ]at h;unfold pI;rw[aG (by omega),aG (by omega),aG (by omega)]
def adg{b:Nat}(hb:0<b):∀{s:ag} {n m:Nat},k3 b s n=.ok m->n<=m
 |[],n,m,h=>by injection h with h;omega
 |c::s,n,m,h=>by
  simp only[k3]at h;split at h
  .cases h
  .split at h
   .cases h
   .split at h
    .cases h
    .have:=adg hb h
     have h2:n*1<=n*b:=Qh _ hb;omega
def SB{b:Nat}(hb:b<=16):∀{s:ag} {n:Nat},s.all qS=false->Ba b s n=none
 |[],_,h=>by cases h
 |c::s,n,h=>by
  simp only[yj,Dz]at h;simp only[Ba];split;·rfl
  .rename_i hc
   rcases h with h|h
   .rw[av6 h]at hc
    exact absurd (.inl (by omega)) hc
   .exact SB hb h
def SS{b:Nat}(hb0:0<b):∀{s:ag} {n:Nat},s.all qS=true->n<=9223372036854775807->(match Ba b s n with
  |some m=>k3 b s n=.ok m/\m<=9223372036854775807
  |none=>(∃k,k3 b s n=.bad k)\/∃m,k3 b s n=.ok m/\9223372036854775808<=m)
 |[],n,_,hn=>⟨rfl,hn⟩
 |c::s,n,h,hn=>by
  simp only[yj,aHo]at h;obtain⟨hd,aHH⟩:=auC h.1;simp only[Ba,k3,hd];generalize pI c=d at*
  by_cases h1:b<=d
  .rw[aL (.inl h1)]
   exact .inl ⟨2,by rw[aL h1]⟩
  .have e:((9223372036854775807-d)/b<n)↔9223372036854775807-d<n*b:=Nat.div_lt_iff_lt_mul hb0
   by_cases h2:(9223372036854775807-d)/b<n
   .rw[aL (.inr h2),aG h1]
    have h3:=e.1 h2
    by_cases h4:18446744073709551615<n*b+d
    .exact .inl ⟨1,by rw[aL h4]⟩
    .rw[aG h4]
     cases hs:k3 b s (n*b+d)with
     |bad k=>exact .inl ⟨k,rfl⟩
     |ok m=>exact .inr ⟨m,rfl,by have:=adg hb0 hs;omega⟩
   .have h3:¬9223372036854775807-d<n*b:=λx=>h2 (e.2 x)
    rw[aG (by omega),aG h1,aG (by omega)];exact SS hb0 h.2 (by omega)
def UJ(s:ag):Option Nat:=if(jJ s).2=[]then none else Ba (jJ s).1 (jJ s).2 0
def T7(s:ag):(jJ s).1=8\/(jJ s).1=10\/(jJ s).1=16:=by
 unfold jJ;split
 .split
  .exact .inr (.inr rfl)
  .split
   .exact .inl rfl
   .exact .inr (.inl rfl)
 .split
  .exact .inl rfl
  .exact .inr (.inl rfl)
 .exact .inr (.inl rfl)
def av7(s:ag):aIn s=(UJ s).map λn=>(n:Int):=by
 have hb:=T7 s;unfold aIn UJ;generalize(jJ s).1=b at*;generalize(jJ s).2=ds at*;cases ds with
 |nil=>simp[nM]
 |cons c t=>
  rw[aG (show¬(c::t=[]) by simp)];cases ha:(c::t).all qS with
  |false=>rw[aG (by decide),SB (by omega) ha];rfl
  |true=>
   rw[aL rfl];have hc:qS c=true:=by simp only[yj,aHo]at ha;exact ha.1
   have h43:¬c=43:=λe=>by rw[e]at hc;revert hc;decide
   have h45:¬c=45:=λe=>by rw[e]at hc;revert hc;decide
   have hp:nM b (c::t)=signed false (k3 b (c::t) 0):=by simp only[nM];rw[aG h43,aG h45];unfold jI;rw[aG (by simp)]
   rw[hp];have hs:=SS (b:=b) (by omega) ha (dK _);cases hn:Ba b (c::t) 0 with
   |some m=>rw[hn]at hs;rw[hs.1];unfold signed;dsimp only;rw[aG (by decide),aG (by omega)];rfl
   |none=>
    rw[hn]at hs;rcases hs with⟨k,hs⟩|⟨m,hs,hm⟩
    .rw[hs]
     rfl
    .rw[hs]
     unfold signed;dsimp only;rw[aG (by decide),aL hm];rfl
def LC{s:ag}{n:Int}(h:aIn s=some n):0<=n/\n<9223372036854775808:=by
 rw[av7]at h;unfold UJ at h;split at h
 .cases h
 .have hb:=T7 s
  cases hn:Ba (jJ s).1 (jJ s).2 0 with
  |none=>rw[hn]at h;cases h
  |some m=>
   rw[hn]at h;injection h with h;have h:(m:Int)=n:=h;cases ha:(jJ s).2.all qS with
   |false=>rw[SB (by omega) ha]at hn;cases hn
   |true=>have hs:=SS (b:=(jJ s).1) (by omega) ha (dK _);rw[hn]at hs;have:=hs.2;omega
def AK(s:ag):Option Int:=match s with
 |[]=>some 0
 |c::r=>if c=45 then(aIn r).map λn=>-n else aIn (c::r)
def lvl(o:ag):Nat:=
 if o=[124,124]then 1 else if o=[38,38]then 2 else if o=[124]then 3 else if o=[94]then 4 else if o=[38]then 5 else
 if o=[61,61]then 6 else if o=[33,61]then 6 else if o=[60]then 7 else if o=[60,61]then 7 else if o=[62]then 7 else if o=[62,61]then 7 else
 if o=[60,60]then 8 else if o=[62,62]then 8 else if o=[43]then 9 else if o=[45]then 9 else if o=[42]then 10 else if o=[47]then 10 else if o=[37]then 10 else 0
def axe{o:ag}{l:Nat}(h:o∈lv l):lvl o=l+1:=by
 have hl:=(MH h).2;have:∀l,l<10->∀o∈lv l,lvl o=l+1:=by decide
 exact this l hl o h
def auD(s:ag):bT s=[]\/bT s∈pg:=by
 by_cases h:bT s=[]
 .exact .inl h
 .exact .inr (Tq h).1
def UK{s:ag}(h:lvl (bT s)≠0):lvl (bT s)<=10/\bT s∈lv (lvl (bT s)-1):=by
 have:∀o∈pg,lvl o≠0->lvl o<=10/\o∈lv (lvl o-1):=by decide
 rcases auD s with e|e
 .rw[e]at h
  exact absurd rfl h
 .exact this _ e h
def auE{s:ag}(h:∀j,bT s∉lv j):lvl (bT s)=0:=by
 by_cases h0:lvl (bT s)=0
 .exact h0
 .exact absurd (UK h0).2 (h _)
inductive Cm where
 |expr(d:Nat)
 |cond(d:Nat)
 |bin(m d:Nat)
 |p_(m d:Nat)(a:Tm)
 |mo(d:Nat)
inductive Cl:Cm->ag->Pr (Tm×ag)->Prop
 |MJ {d:Nat} {s:ag} (h:30<d):Cl (.expr d) s (.bad 2)
 |Nb {d:Nat} {s n o r r':ag} {t:Tm} (h:¬30<d) (ha:qp s=some (n,o,r)) (h1:Cl (.expr (d+1)) r (.ok (t,r'))):Cl (.expr d) s (.ok (.set n o.dropLast t,r'))
 |aKo {d:Nat} {s n o r:ag} {k:Nat} (h:¬30<d) (ha:qp s=some (n,o,r)) (h1:Cl (.expr (d+1)) r (.bad k)):Cl (.expr d) s (.bad k)
 |MK {d:Nat} {s:ag} {q:Pr (Tm×ag)} (h:¬30<d) (ha:qp s=none) (h1:Cl (.cond d) (trim s) q):Cl (.expr d) s q
 |Nc {d:Nat} {s:ag} {k:Nat} (h1:Cl (.bin 1 d) s (.bad k)):Cl (.cond d) s (.bad k)
 |NK {d:Nat} {s r:ag} {c:Tm} (h1:Cl (.bin 1 d) s (.ok (c,r))) (ho:bT r≠[63]):Cl (.cond d) s (.ok (c,trim r))
 |ML {d:Nat} {s r:ag} {c:Tm} {k:Nat} (h1:Cl (.bin 1 d) s (.ok (c,r))) (ho:bT r=[63]) (h2:Cl (.expr (d+1)) (fT r) (.bad k)):Cl (.cond d) s (.bad k)
 |Mj {d:Nat} {s r r2:ag} {c a:Tm} (h1:Cl (.bin 1 d) s (.ok (c,r))) (ho:bT r=[63]) (h2:Cl (.expr (d+1)) (fT r) (.ok (a,r2))) (cc:bT r2≠[58]):Cl (.cond d) s (.bad 130)
 |MM {d:Nat} {s r r2:ag} {c a:Tm} {k:Nat} (h1:Cl (.bin 1 d) s (.ok (c,r))) (ho:bT r=[63]) (h2:Cl (.expr (d+1)) (fT r) (.ok (a,r2))) (cc:bT r2=[58]) (h3:Cl (.cond (d+1)) (fT r2) (.bad k)):Cl (.cond d) s (.bad k)
 |NL {d:Nat} {s r r2 r3:ag} {c a b:Tm} (h1:Cl (.bin 1 d) s (.ok (c,r))) (ho:bT r=[63]) (h2:Cl (.expr (d+1)) (fT r) (.ok (a,r2))) (cc:bT r2=[58]) (h3:Cl (.cond (d+1)) (fT r2) (.ok (b,r3))):Cl (.cond d) s (.ok (.h_ c a b,r3))
 |MN {m d:Nat} {s:ag} {k:Nat} (h1:Cl (.mo d) s (.bad k)):Cl (.bin m d) s (.bad k)
 |bin {m d:Nat} {s r:ag} {a:Tm} {q:Pr (Tm×ag)} (h1:Cl (.mo d) s (.ok (a,r))) (h2:Cl (.p_ m d a) r q):Cl (.bin m d) s q
 |yS {m d:Nat} {s:ag} {a:Tm} (h:lvl (bT s)<m\/lvl (bT s)=0):Cl (.p_ m d a) s (.ok (a,trim s))
 |AW {m d:Nat} {s:ag} {a:Tm} {k:Nat} (h:¬(lvl (bT s)<m\/lvl (bT s)=0)) (h1:Cl (.bin (lvl (bT s)+1) d) (fT s) (.bad k)):Cl (.p_ m d a) s (.bad k)
 |yH {m d:Nat} {s r:ag} {a b:Tm} {q:Pr (Tm×ag)} (h:¬(lvl (bT s)<m\/lvl (bT s)=0)) (h1:Cl (.bin (lvl (bT s)+1) d) (fT s) (.ok (b,r))) (h2:Cl (.p_ m d (.bin (bT s) a b)) r q):Cl (.p_ m d a) s q
 |MO {d:Nat} {s:ag} (h:30<d):Cl (.mo d) s (.bad 2)
 |unOp {d:Nat} {s r:ag} {t:Tm} (h:¬30<d) (ho:bT s∈AI) (h1:Cl (.mo (d+1)) (fT s) (.ok (t,r))):Cl (.mo d) s (.ok (.tN (bT s) t,r))
 |Mk {d:Nat} {s:ag} {k:Nat} (h:¬30<d) (ho:bT s∈AI) (h1:Cl (.mo (d+1)) (fT s) (.bad k)):Cl (.mo d) s (.bad k)
 |aKp {d:Nat} {s:ag} {k:Nat} (h:¬30<d) (ho:bT s=[40]) (h1:Cl (.expr (d+1)) (fT s) (.bad k)):Cl (.mo d) s (.bad k)
 |Ml {d:Nat} {s r:ag} {t:Tm} (h:¬30<d) (ho:bT s=[40]) (h1:Cl (.expr (d+1)) (fT s) (.ok (t,r))) (cc:bT r≠[41]):Cl (.mo d) s (.bad 130)
 |Nf {d:Nat} {s r:ag} {t:Tm} (h:¬30<d) (ho:bT s=[40]) (h1:Cl (.expr (d+1)) (fT s) (.ok (t,r))) (cc:bT r=[41]):Cl (.mo d) s (.ok (t,fT r))
 |aKs {d:Nat} {s:ag} (h:¬30<d) (ho:bT s∉AI) (cc:bT s≠[40]):Cl (.mo d) s (vv (trim s))
def aqP{m d:Nat}{a:Tm}{s:ag}{q:Pr (Tm×ag)}(h:Cl (.p_ m d a) (trim s) q):Cl (.p_ m d a) s q:=by
 generalize hs:trim s=s' at h;cases h with
 |yS h=>rw[<-hs,qK]at h;rw[<-hs,Ea];exact .yS h
 |AW h h1=>rw[<-hs,qK]at h h1;rw[Cj]at h1;exact .AW h h1
 |yH h h1 h2=>rw[<-hs,qK]at h h1 h2;rw[Cj]at h1;exact .yH h h1 h2
def Good:Md->ag->Pr (Tm×ag)->Prop
 |.expr d,s,q=>Cl (.expr d) s q
 |.h_ d,s,q=>Cl (.cond d) s q
 |.sig d,s,q=>Cl (.mo d) s q
 |.aHk l d,s,q=>l<=10->∀m,m<=l+1->match q with
  |.bad k=>Cl (.bin m d) s (.bad k)
  |.ok (a,r)=>(∀j,l<=j->bT r∉lv j)/\∀q',Cl (.p_ m d a) r q'->Cl (.bin m d) s q'
 |.loop l d a,s,q=>l<10->(∀j,l<j->bT s∉lv j)->∀m,m<=l+1->match q with
  |.bad k=>Cl (.p_ m d a) s (.bad k)
  |.ok (a',r)=>(∀j,l<=j->bT r∉lv j)/\∀q',Cl (.p_ m d a') r q'->Cl (.p_ m d a) s q'
def kM:∀(f:Nat) (m:Md) (s:ag) (q:Pr (Tm×ag)),ps f m s=some q->Good m s q
 |0,_,_,_,h=>by simp[ps]at h
 |f+1,.expr d,s,q,h=>by
  simp only[ps]at h;show Cl (.expr d) s q
  split at h
  .rename_i hd
   injection h with h;rw[<-h];exact .MJ hd
  .rename_i hd
   split at h
   .rename_i n o r ha
    rcases oF h with⟨k,h1,rfl⟩|⟨t,r',h1,h2⟩
    .exact .aKo hd ha (kM f _ _ _ h1)
    .injection h2 with h2
     rw[<-h2];exact .Nb hd ha (kM f _ _ _ h1)
   .rename_i ha
    exact .MK hd ha (kM f _ _ _ h)
 |f+1,.h_ d,s,q,h=>by
  simp only[ps]at h;show Cl (.cond d) s q
  rcases oF h with⟨k,h1,rfl⟩|⟨c,r,h1,h2⟩
  .exact .Nc (kM f _ _ _ h1 (by decide) 1 (by decide))
  .have hg:=kM f _ _ _ h1 (by decide) 1 (by decide)
   have hb:Cl (.bin 1 d) s (.ok (c,trim r)):=hg.2 _ (.yS (.inr (auE λj=>hg.1 j (dK _))));split at h2
   .rename_i ho
    injection h2 with h2;rw[<-h2];have:=Cl.NK hb (by rw[qK];exact ho);rwa[Ea]at this
   .rename_i ho
    have ho:bT (trim r)=[63]:=by rw[qK];exact yb.1 ho
    rcases oF h2 with⟨k,h3,rfl⟩|⟨a,r2,h3,h4⟩
    .exact .ML hb ho (by rw[Cj];exact kM f _ _ _ h3)
    .have ha:Cl (.expr (d+1)) (fT (trim r)) (.ok (a,r2)):=by rw[Cj];exact kM f _ _ _ h3
     split at h4
     .rename_i cc
      injection h4 with h4;rw[<-h4];exact .Mj hb ho ha cc
     .rename_i cc
      have cc:bT r2=[58]:=yb.1 cc;rcases oF h4 with⟨k,h5,rfl⟩|⟨b,r3,h5,h6⟩
      .exact .MM hb ho ha cc (kM f _ _ _ h5)
      .injection h6 with h6
       rw[<-h6];exact .NL hb ho ha cc (kM f _ _ _ h5)
 |f+1,.aHk l d,s,q,h=>by
  simp only[ps]at h;intro hl m hm;split at h
  .rename_i h10
   have hu:Cl (.mo d) s q:=kM f _ _ _ h;cases q with
   |bad k=>exact .MN hu
   |ok p=>obtain⟨a,r⟩:=p;exact⟨λj hj hm=>by have:=(MH hm).2;omega,λq' hq=>.bin hu hq⟩
  .rename_i h10
   rcases oF h with⟨k,h1,rfl⟩|⟨a,r,h1,h2⟩
   .exact kM f _ _ _ h1 (by omega) m (by omega)
   .have hg:=kM f _ _ _ h1 (by omega) m (by omega)
    have hb:=kM f _ _ _ h2 (by omega) (λj hj=>hg.1 j hj) m hm;cases q with
    |bad k=>exact hg.2 _ hb
    |ok p=>exact⟨hb.1,λq' hq=>hg.2 _ (hb.2 _ hq)⟩
 |f+1,.loop l d a,s,q,h=>by
  simp only[ps]at h;intro hl hno m hm;split at h
  .rename_i ho
   have hlv:=axe ho;have hnot:¬(lvl (bT s)<m\/lvl (bT s)=0):=by omega
   rcases oF h with⟨k,h1,rfl⟩|⟨b,r,h1,h2⟩
   .exact .AW hnot (by rw[hlv];exact kM f _ _ _ h1 (by omega) (l+1+1) (by omega))
   .have hg:=kM f _ _ _ h1 (by omega) (l+1+1) (by omega)
    have fS:=kM f _ _ _ h2 hl (λj hj=>hg.1 j hj) m hm;have hlt:lvl (bT r)<l+1+1\/lvl (bT r)=0:=by
     by_cases h0:lvl (bT r)=0
     .exact .inr h0
     .have h3:=UK h0
      by_cases h4:lvl (bT r)<l+1+1
      .exact .inl h4
      .exact absurd h3.2 (hg.1 _ (by omega))
    have agQ:Cl (.bin (lvl (bT s)+1) d) (fT s) (.ok (b,trim r)):=by rw[hlv];exact hg.2 _ (.yS hlt)
    have go:∀q',Cl (.p_ m d (.bin (bT s) a b)) r q'->Cl (.p_ m d (.bin (bT s) a b)) (trim r) q':=by
     intro q' hq;have e:trim r=trim (trim r):=(Ea r).symm;generalize hx:trim r=r' at*;cases hq with
     |yS h=>rw[hx];have:=Cl.yS (s:=r') (m:=m) (d:=d) (a:=.bin (bT s) a b) (by rw[<-hx,qK];exact h);rwa[<-e]at this
     |AW h h1=>exact .AW (by rw[<-hx,qK];exact h) (by rw[<-hx,qK,Cj];exact h1)
     |yH h h1 h2=>exact .yH (by rw[<-hx,qK];exact h) (by rw[<-hx,qK,Cj];exact h1) (by rw[<-hx,qK];exact h2)
    cases q with
    |bad k=>exact .yH hnot agQ (go _ fS)
    |ok p=>exact⟨fS.1,λq' hq=>.yH hnot agQ (go _ (fS.2 _ hq))⟩
  .rename_i ho
   injection h with h;rw[<-h];refine⟨λj hj=>?_,λq' hq=>aqP hq⟩;rw[qK];rcases YC hj with e|e
   .rw[<-e];exact ho
   .exact hno j e
 |f+1,.sig d,s,q,h=>by
  simp only[ps]at h;show Cl (.mo d) s q
  split at h
  .rename_i hd
   injection h with h;rw[<-h];exact .MO hd
  .rename_i hd
   split at h
   .rename_i ho
    rcases oF h with⟨k,h1,rfl⟩|⟨t,r',h1,h2⟩
    .exact .Mk hd ho (kM f _ _ _ h1)
    .injection h2 with h2
     rw[<-h2];exact .unOp hd ho (kM f _ _ _ h1)
   .rename_i ho
    split at h
    .rename_i hp
     rcases oF h with⟨k,h1,rfl⟩|⟨t,r',h1,h2⟩
     .exact .aKp hd hp (kM f _ _ _ h1)
     .split at h2
      .rename_i cc
       injection h2 with h2;rw[<-h2];exact .Ml hd hp (kM f _ _ _ h1) cc
      .rename_i cc
       injection h2 with h2;rw[<-h2];exact .Nf hd hp (kM f _ _ _ h1) (yb.1 cc)
    .rename_i hp
     injection h with h;rw[<-h];exact .aKs hd ho hp
def rY(b:Bool):Int:=if b=true then 1 else 0
def shN(b:Int):Nat:=min (Int.toNat (bits .and .u64 (u64.wrap b) 63)) (i64.bits)
def Ng(op:ag)(a b:Int):Int:=
 if op=[43]then i64.wrap (a+b)else if op=[45]then i64.wrap (a-b)else if op=[42]then i64.wrap (a*b)else
 if op=[47]then i64.wrap (Int.tdiv a b)else if op=[37]then Int.tmod a b else
 if op=[60,60]then i64.wrap (a*2^shN b)else if op=[62,62]then Int.fdiv a (2^shN b)else
 if op=[38]then bits .and .i64 a b else if op=[124]then bits .or .i64 a b else if op=[94]then bits .xor .i64 a b else
 if op=[61,61]then rY (decide (a=b))else if op=[33,61]then rY (!decide (a=b))else if op=[60]then rY (decide (a<b))else
 if op=[60,61]then rY (decide (a<=b))else if op=[62]then rY (decide (b<a))else rY (decide (b<=a))
def aIF(op:ag)(a b:Int):Pr Int:=if b=0/\(op=[47]\/op=[37])then .bad 131 else .ok (Ng op a b)
def mo(op:ag)(n:Int):Int:=if op=[45]then i64.wrap (0-n)else if op=[126]then bits .xor .i64 (-1) n else if op=[33]then rY (decide (n=0))else n
def xw(x:ag)(V:List Vr):Pr Int:=match AK (getD x V).value with
 |some n=>.ok n
 |none=>.bad 130
def su(V:List Vr)(x:ag)(z:Int):Pr (Int×List Vr):=if(i_ V x (Lib.itoa z)).2=0 then .ok (z,(i_ V x (Lib.itoa z)).1)else .bad (i_ V x (Lib.itoa z)).2.toNat
def n_{α β:Type}(r:Pr α)(f:α->Pr β):Pr β:=match r with
 |.bad k=>.bad k
 |.ok a=>f a
def ev:Tm->List Vr->Pr (Int×List Vr)
 |.num n,V=>.ok (n,V)
 |.vQ x,V=>n_ (xw x V) λn=>.ok (n,V)
 |.tN op t,V=>n_ (ev t V) λp=>.ok (mo op p.1,p.2)
 |.bin op a b,V=>n_ (ev a V) λp=>
  if op=[124,124]then(if p.1≠0 then .ok (1,p.2)else n_ (ev b p.2) λq=>.ok (rY (!decide (q.1=0)),q.2))
  else if op=[38,38]then(if p.1=0 then .ok (0,p.2)else n_ (ev b p.2) λq=>.ok (rY (!decide (q.1=0)),q.2))
  else n_ (ev b p.2) λq=>n_ (aIF op p.1 q.1) λz=>.ok (z,q.2)
 |.h_ c a b,V=>n_ (ev c V) λp=>if p.1≠0 then ev a p.2 else ev b p.2
 |.set x op t,V=>n_ (ev t V) λp=>n_ (if op=[]then .ok p.1 else n_ (xw x p.2) λm=>aIF op m p.1) λz=>su p.2 x z
abbrev eL(n:Int):Prop:=-9223372036854775808<=n/\n<9223372036854775808
def yI:List ag:=[[124],[94],[38],[61,61],[33,61],[60],[60,61],[62],[62,61],[60,60],[62,62],[43],[45],[42],[47],[37]]
def tD:Tm->Prop
 |.num n=>eL n
 |.vQ _=>True
 |.tN op t=>op∈AI/\tD t
 |.bin op a b=>(op=[124,124]\/op=[38,38]\/op∈yI)/\tD a/\tD b
 |.h_ c a b=>tD c/\tD a/\tD b
 |.set x op t=>(op=[]\/op∈yI)/\isName x=true/\tD t
def axf{o:ag}{l:Nat}(h:o∈lv l):o=[124,124]\/o=[38,38]\/o∈yI:=by
 have hl:=(MH h).2;have:∀l,l<10->∀o∈lv l,o=[124,124]\/o=[38,38]\/o∈yI:=by decide
 exact this l hl o h
def av8{s r:ag}{t:Tm}(h:vv s=.ok (t,r)):tD t:=by
 unfold vv at h;dsimp only at h;split at h
 .injection h with h
  injection h with h _;rw[<-h];exact True.intro
 .split at h
  .rename_i n hn
   injection h with h;injection h with h _;rw[<-h];have:=LC hn;exact⟨by omega,this.2⟩
  .cases h
def aa3:∀(b:Bool) (s:ag),bV b (s.take (bV b s))=bV b s
 |_,[]=>rfl
 |b,c::s=>by
  simp only[bV];split
  .rename_i h
   rw[Yr];simp only[bV];rw[aL h,aa3 false s]
  .rw[List.take_zero]
   rfl
def afg{s n o r:ag}(h:qp s=some (n,o,r)):(o.dropLast=[]\/o.dropLast∈yI)/\isName n=true/\o∈aJp:=by
 unfold qp at h;dsimp only at h;split at h
 .rename_i hc
  injection h with h;injection h with h1 h2;injection h2 with h2 h3;have key:∀o∈aJp,o.dropLast=[]\/o.dropLast∈yI:=by decide
  refine⟨by rw[<-h2];exact key _ hc.2,?_,by rw[<-h2];exact hc.2⟩;rw[<-h1];have hle:=aIS true (trim s);unfold isName;rw[aa3,aHl,BZ hle];rw[fe rfl,Rk,eX];·rfl
  .intro e
   have:=gJ List.length e;rw[aHl,aHf]at this;omega
 .cases h
def ax9{m:Cm}{s:ag}{q:Pr (Tm×ag)}(h:Cl m s q):∀t r,q=.ok (t,r)->(∀l d a,m=.p_ l d a->tD a)->tD t:=by
 have fst:∀{t t':Tm} {s s':ag},(Pr.ok (t,s):Pr (Tm×ag))=.ok (t',s')->t=t':=by intro t t' s s' e;injection e with e;injection e with e _
 induction h with
 |MJ h=>intro t r e;cases e
 |Nb h ha h1 ih=>intro t r e _;obtain rfl:=fst e;have:=afg ha;exact⟨this.1,this.2.1,ih _ _ rfl (λ_ _ _ e=>by cases e)⟩
 |aKo h ha h1 ih=>intro t r e;cases e
 |MK h ha h1 ih=>intro t r e _;exact ih t r e (λ_ _ _ e=>by cases e)
 |Nc h1 ih=>intro t r e;cases e
 |NK h1 ho ih=>intro t r e _;obtain rfl:=fst e;exact ih _ _ rfl (λ_ _ _ e=>by cases e)
 |ML h1 ho h2 ih1 ih2=>intro t r e;cases e
 |Mj h1 ho h2 cc ih1 ih2=>intro t r e;cases e
 |MM h1 ho h2 cc h3 ih1 ih2 ih3=>intro t r e;cases e
 |NL h1 ho h2 cc h3 ih1 ih2 ih3=>intro t r e _;obtain rfl:=fst e;exact⟨ih1 _ _ rfl (λ_ _ _ e=>by cases e),ih2 _ _ rfl (λ_ _ _ e=>by cases e),ih3 _ _ rfl (λ_ _ _ e=>by cases e)⟩
 |MN h1 ih=>intro t r e;cases e
 |bin h1 h2 ih1 ih2=>intro t r e _;exact ih2 t r e (λ_ _ _ e=>by injection e with _ _ e;rw[<-e];exact ih1 _ _ rfl (λ_ _ _ e=>by cases e))
 |yS h=>intro t r e ha;obtain rfl:=fst e;exact ha _ _ _ rfl
 |AW h h1 ih=>intro t r e;cases e
 |@yH m d s r a b q h h1 h2 ih1 ih2=>intro t r' e ha;refine ih2 t r' e (λ_ _ _ e=>?_);injection e with _ _ e;rw[<-e];exact⟨axf (UK (λe=>h (.inr e))).2,ha _ _ _ rfl,ih1 _ _ rfl (λ_ _ _ e=>by cases e)⟩
 |MO h=>intro t r e;cases e
 |unOp h ho h1 ih=>intro t r e _;obtain rfl:=fst e;exact⟨ho,ih _ _ rfl (λ_ _ _ e=>by cases e)⟩
 |Mk h ho h1 ih=>intro t r e;cases e
 |aKp h ho h1 ih=>intro t r e;cases e
 |Ml h ho h1 cc ih=>intro t r e;cases e
 |Nf h ho h1 cc ih=>intro t r e _;obtain rfl:=fst e;exact ih _ _ rfl (λ_ _ _ e=>by cases e)
 |aKs h ho cc=>intro t r e _;exact av8 e
end Go.Proofs.YtihaaoehhgmphaaGreatDoor.A
namespace Go.Proofs.YtihaaoehhgmphaaGreatDoor.L
open IntKind Go.RowKit Vc
variable{w:World}{α:Type}
structure cA(α:Type)where
 sz:Nat
 E:World->(Nat->Prop)->α->List Value->Prop
 len:∀{w:World} {F:Nat->Prop} {x:α} {cs:List Value},E w F x cs->cs.length=sz
 one:∀{w:World} {F:Nat->Prop} {x:α} {cs:List Value},E w F x cs->∀u∈cs,u.oneCell'=true
 dN:∀{w w':World} {F G:Nat->Prop} {x:α} {cs:List Value},(∀k,F k->G k)->(∀a v,(∃k,F k/\a.block=k)->w.cell? a=some v->w'.cell? a=some v)->E w F x cs->E w' G x cs
def cA.Cs(e:cA α)(w:World)(F:Nat->Prop):List α->List Value->Prop
 |[],xs=>xs=[]
 |x::r,xs=>∃cs ys,xs=cs++ys/\e.E w F x cs/\e.Cs w F r ys
def aH7(w:World)(b:Addr)(xs:List Value):Prop:=∀(j:Nat) (u:Value),xs[j]?=some u->w.cell? (b.add j)=some u
def cA.At(e:cA α)(w:World)(F:Nat->Prop)(l:List α)(v:Value):Prop:=∃p c,v=.slice p l.length c/\l.length<=c/\(l≠[]->∃b xs,p=some b/\F b.block/\e.Cs w F l xs/\aH7 w b xs)
def cA.Out(e:cA α)(w:World)(B:Nat)(t:TypeId)(l:List α)(v:Value):Prop:=∃p c xs,v=.slice p l.length c/\aS w B t e.sz v l.length xs/\e.Cs w (λk=>B<=k/\k<w.heap.size/\v.ownBlock≠some k) l xs
section
variable{e:cA α}{F G:Nat->Prop}
def cA.Cs.len:∀{l:List α} {xs:List Value},e.Cs w F l xs->xs.length=l.length*e.sz
 |[],xs,h=>by rw[show xs=[]from h,aHf,aHf,Gl]
 |x::r,xs,⟨cs,ys,h1,h2,h3⟩=>by rw[h1,cB,e.len h2,cA.Cs.len h3,bf,Nat.succ_mul];omega
def cA.Cs.one:∀{l:List α} {xs:List Value},e.Cs w F l xs->∀u∈xs,u.oneCell'=true
 |[],xs,h=>by rw[show xs=[]from h];simp
 |x::r,xs,⟨cs,ys,h1,h2,h3⟩=>by
  intro u hu;rw[h1]at hu;rcases kW.1 hu with hu|hu
  .exact e.one h2 u hu
  .exact cA.Cs.one h3 u hu
def cA.Cs.dN{w':World}(hF:∀k,F k->G k)(hw:∀a v,(∃k,F k/\a.block=k)->w.cell? a=some v->w'.cell? a=some v):∀{l:List α} {xs:List Value},e.Cs w F l xs->e.Cs w' G l xs
 |[],xs,h=>h
 |x::r,xs,⟨cs,ys,h1,h2,h3⟩=>⟨cs,ys,h1,e.dN hF hw h2,cA.Cs.dN hF hw h3⟩
def cA.Cs.append:∀{l m:List α} {xs ys:List Value},e.Cs w F l xs->e.Cs w F m ys->e.Cs w F (l++m) (xs++ys)
 |[],m,xs,ys,h,k=>by rw[show xs=[]from h];exact k
 |x::r,m,xs,ys,⟨cs,zs,h1,h2,h3⟩,k=>⟨cs,zs++ys,by rw[h1,aIi],h2,cA.Cs.append h3 k⟩
def cA.Cs.single{x:α}{cs:List Value}(h:e.E w F x cs):e.Cs w F [x] cs:=⟨cs,[],(ug _).symm,h,rfl⟩
def cA.Cs.get:∀{l:List α} {xs:List Value} {i:Nat} {x:α},e.Cs w F l xs->l[i]?=some x->∃cs,e.E w F x cs/\∀(j:Nat) (u:Value),cs[j]?=some u->xs[i*e.sz+j]?=some u
 |y::r,xs,0,x,⟨cs,ys,h1,h2,h3⟩,hx=>by obtain rfl:=bU hx;refine⟨cs,h2,λj u hu=>?_⟩;rw[h1,Gl,cQ,x_ (iU.1 hu).1];exact hu
 |y::r,xs,i+1,x,⟨cs,ys,h1,h2,h3⟩,hx=>by obtain⟨cs',g1,g2⟩:=cA.Cs.get (i:=i) h3 (by simpa using hx);refine⟨cs',g1,λj u hu=>?_⟩;have hl:=e.len h2;rw[h1,Nat.succ_mul,aJY (by omega),hl,show i*e.sz+e.sz+j-e.sz=i*e.sz+j by omega];exact g2 j u hu
def aH7.still{w':World}{b:Addr}{xs:List Value}(h:aH7 w b xs)(hm:Still w w'):aH7 w' b xs:=λj u hu=>hm.cell (h j u hu)
def aH7.row{g:Nat}{t:TypeId}{xs:List Value}(h:Row w g t ⟨xs⟩):aH7 w ⟨g,0,none⟩ xs:=λj u hu=>by rw[aHa,cQ];exact h.aj hu
def cA.At.dN{w':World}(hF:∀k,F k->G k)(hw:∀a v,(∃k,F k/\a.block=k)->w.cell? a=some v->w'.cell? a=some v){l:List α}{v:Value}(h:e.At w F l v):e.At w' G l v:=by obtain⟨p,c,rfl,h2,h3⟩:=h;refine⟨p,c,rfl,h2,λhl=>?_⟩;obtain⟨b,xs,rfl,h4,h5,h6⟩:=h3 hl;exact⟨b,xs,rfl,hF _ h4,h5.dN hF hw,λj u hu=>hw _ _ ⟨_,h4,D_ b j⟩ (h6 j u hu)⟩
def cA.At.mono(hF:∀k,F k->G k){l:List α}{v:Value}(h:e.At w F l v):e.At w G l v:=h.dN hF λ_ _ _ h=>h
def cA.At.any{l:List α}{v:Value}(h:e.At w F l v):e.At w (λ_=>True) l v:=h.mono λ_ _=>trivial
def cA.At.mod{S:Nat->Prop}{w':World}{l:List α}{v:Value}(h:e.At w F l v)(hm:Mod S w w')(hS:∀k,F k->¬S k):e.At w' F l v:=
 h.dN (λ_ h=>h) λa v ⟨k,hk,ea⟩ hc=>wT hm (by rw[ea];exact hS k hk) hc
def cA.At.still{w':World}{l:List α}{v:Value}(h:e.At w F l v)(hm:Still w w'):e.At w' F l v:=h.mod hm λ_ _ h=>h
def cA.At.nil(e:cA α)(w:World)(F:Nat->Prop)(p:Option Addr)(c:Nat):e.At w F [] (.slice p 0 c):=⟨p,c,rfl,dK _,λh=>absurd rfl h⟩
def cA.At.form{l:List α}{v:Value}(h:e.At w F l v):∃p c,v=.slice p l.length c:=by obtain⟨p,c,he,_⟩:=h;exact⟨p,c,he⟩
def cA.At.one{l:List α}{v:Value}(h:e.At w F l v):v.oneCell'=true:=by obtain⟨p,c,rfl,_⟩:=h;rfl
def cA.At.len{l:List α}{p:Option Addr}{n c:Nat}(h:e.At w F l (.slice p n c)):n=l.length/\l.length<=c:=by obtain⟨p',c',he,h2,_⟩:=h;injection he with e1 e2 e3;subst e3;exact⟨e2,h2⟩
def cA.At.get{l:List α}{p:Option Addr}{n c:Nat}(h:e.At w F l (.slice p n c)){i:Nat}{x:α}(hx:l[i]?=some x):∃b cs,p=some b/\F b.block/\e.E w F x cs/\aH7 w (b.add (i*e.sz)) cs:=by
 obtain⟨p',c',he,h2,h3⟩:=h;injection he with e1 e2 e3;subst e1 e2 e3;have hl:l≠[]:=by rintro rfl;cases hx
 obtain⟨b,xs,rfl,h4,h5,h6⟩:=h3 hl;obtain⟨cs,g1,g2⟩:=h5.get hx;refine⟨b,cs,rfl,h4,g1,λj u hu=>?_⟩;rw[aIC];exact h6 _ u (g2 j u hu)
def cA.At.tail{x:α}{r:List α}{a:Addr}{n c:Nat}(h:e.At w F (x::r) (.slice (some a) n c)):e.At w F r (.slice (some (a.add e.sz)) (n-1) (c-1)):=by obtain⟨p',c',he,h2,h3⟩:=h;injection he with e1 e2 e3;subst e1 e2 e3;obtain⟨b,xs,hb,h4,⟨cs,ys,h5,h6,h7⟩,h8⟩:=h3 (by simp);obtain rfl:=bU hb;refine⟨some (a.add e.sz),c-1,by rw[bf,Qt],by simp only[bf]at h2;omega,λ_=>⟨_,ys,rfl,by rw[D_];exact h4,h7,λj u hu=>?_⟩⟩;rw[aIC];refine h8 _ u ?_;have hl:=e.len h6;rw[h5,aJY (by omega),show e.sz+j-cs.length=j by omega];exact hu
def cA.At.ptr{x:α}{r:List α}{p:Option Addr}{n c:Nat}(h:e.At w F (x::r) (.slice p n c)):∃a,p=some a:=by obtain⟨b,_,hb,_⟩:=h.get (i:=0) rfl;exact⟨b,hb⟩
def cA.At.row{g c:Nat}{t:TypeId}{l:List α}{xs:List Value}(hr:Row w g t ⟨xs⟩)(hc:e.Cs w F l xs)(hF:F g)(hl:l.length<=c):e.At w F l (.slice (some ⟨g,0,none⟩) l.length c):=
 ⟨_,c,rfl,hl,λ_=>⟨_,xs,rfl,hF,hc,aH7.row hr⟩⟩
def cA.Out.nil(e:cA α)(w:World)(B:Nat)(t:TypeId):e.Out w B t [] (.slice none 0 0):=⟨none,0,[],rfl,aS.nil _ _ _ _,rfl⟩
def cA.Out.form{B:Nat}{t:TypeId}{l:List α}{v:Value}(h:e.Out w B t l v):∃p c,v=.slice p l.length c:=by obtain⟨p,c,_,he,_⟩:=h;exact⟨p,c,he⟩
def cA.Out.at{B:Nat}{t:TypeId}{l:List α}{v:Value}(h:e.Out w B t l v)(hz:0<e.sz):e.At w (λk=>B<=k/\k<w.heap.size) l v:=by obtain⟨p,c,xs,rfl,ho,hc⟩:=h;obtain⟨p',c',he,hle⟩:=ho.cap;injection he with _ _ e3;subst e3;refine⟨p,c,rfl,hle,λhl=>?_⟩;have hn:0<l.length:=mK.2 hl;obtain⟨g,cap,he,hB,hg,_,hcell⟩:=ho.Ax hn;injection he with e1 e2 e3;subst e1;refine⟨_,xs,rfl,⟨hB,hg⟩,hc.dN (λk hk=>⟨hk.1,hk.2.1⟩) (λ_ _ _ h=>h),λj u hu=>?_⟩;rw[aHa,cQ];exact hcell j u hu
def cA.Out.mod{S:Nat->Prop}{w':World}{B:Nat}{t:TypeId}{l:List α}{v:Value}(h:e.Out w B t l v)(hm:Mod S w w')(hS:∀k,B<=k->k<w.heap.size->¬S k):e.Out w' B t l v:=by obtain⟨p,c,xs,rfl,ho,hc⟩:=h;refine⟨p,c,xs,rfl,ho.mod hm λk hk=>hS k (ho.lt k hk).1 (ho.lt k hk).2,hc.dN (λk hk=>⟨hk.1,aH2 hk.2.1 hm.size,hk.2.2⟩) λa v ⟨k,hk,ea⟩ hcell=>wT hm (by rw[ea];exact hS k hk.1 hk.2.1) hcell⟩
def cA.Out.still{w':World}{B:Nat}{t:TypeId}{l:List α}{v:Value}(h:e.Out w B t l v)(hm:Still w w'):e.Out w' B t l v:=h.mod hm λ_ _ _ h=>h
def cA.Out.low{B B':Nat}{t:TypeId}{l:List α}{v:Value}(h:e.Out w B t l v)(hB:B'<=B):e.Out w B' t l v:=by obtain⟨p,c,xs,rfl,ho,hc⟩:=h;exact⟨p,c,xs,rfl,ho.base λk hk=>kJ hB (ho.lt k hk).1,hc.dN (λk hk=>⟨kJ hB hk.1,hk.2⟩) λ_ _ _ h=>h⟩
def cA.Out.push{B bytes:Nat}{t:TypeId}{l:List α}{p:Option Addr}{n c:Nat}{x:α}{cs:List Value}{K:Option Addr->Nat->World->Prop}(ho:e.Out w B t l (.slice p n c))(hB:B<=w.heap.size)
  (hx:e.E w (λk=>B<=k/\k<w.heap.size/\(Value.slice p n c).ownBlock≠some k) x cs)(hs:n+1<=9223372036854775807)(hb:(n+1)*bytes<=140737488355328)
  (h:∀p' c' w',e.Out w' B t (l++[x]) (.slice p' (n+1) c')->Mod (λk=>(Value.slice p n c).ownBlock=some k) w w'->K p' c' w'):
  c7 (w.alloc (.cells ⟨cs⟩ t)) (λw2=>dL w2 t e.sz bytes p n c (some (Addr.mk w.heap.size 0 none)) 1 K):=by
 obtain⟨p0,c0,xs,he,ho,hc⟩:=ho;injection he with e1 e2 e3;subst e1 e2 e3;have hl:=e.len hx;refine aQ λw1 hr hst hz=>?_;refine rM (ho.still hst) (by omega) cs (by omega) (e.one hx) (λ_=>⟨_,rfl,λj u hu=>?_⟩) hs hb λp' c' w' ho' hm hk=>h p' c' w' ?_ (Mod.trans hst hm (λ_ h=>h.elim) (λ_ _ h=>h))
 .rw[aHa,cQ]
  exact hr.dy (by simpa using hu)
 .have hz':=hm.size
  refine⟨p',c',xs++cs,by rw[cB];rfl,by rw[cB];exact ho',?_⟩;have hn:∀k,k<w.heap.size->(Value.slice p l.length c).ownBlock≠some k->(Value.slice p' (l.length+1) c').ownBlock≠some k:=by
   intro k hkl hne hk';rcases hk.own (n:=l.length)with hk|hk
   .exact hne (hk.symm.trans hk')
   .rw[hk']at hk
    have:=bU hk;omega
  refine(hc.append (cA.Cs.single hx)).dN (λk hk=>⟨hk.1,by omega,hn k hk.2.1 hk.2.2⟩) λa v ⟨k,hk,ea⟩ hcell=>wT hm (by rw[ea];exact hk.2.2) (hst.cell hcell)
end
end Go.Proofs.YtihaaoehhgmphaaGreatDoor.L
namespace Go.Proofs.YtihaaoehhgmphaaGreatDoor.L
open IntKind
inductive Nd where
 |mk(k:Int)(neg:Bool)(nm:ag)(ws:List (List Pt))(gA:List (ag×List Pt))(rs:List (ag×List Pt))(os:List ag)(ks:List Nd)
namespace Nd
def k:Nd->Int
 |.mk k _ _ _ _ _ _ _=>k
def neg:Nd->Bool
 |.mk _ x _ _ _ _ _ _=>x
def nm:Nd->ag
 |.mk _ _ x _ _ _ _ _=>x
def ws:Nd->List (List Pt)
 |.mk _ _ _ x _ _ _ _=>x
def gA:Nd->List (ag×List Pt)
 |.mk _ _ _ _ x _ _ _=>x
def rs:Nd->List (ag×List Pt)
 |.mk _ _ _ _ _ x _ _=>x
def os:Nd->List ag
 |.mk _ _ _ _ _ _ x _=>x
def ks:Nd->List Nd
 |.mk _ _ _ _ _ _ _ x=>x
end Nd
abbrev Ts:=List (Nat×ag)
abbrev Pr(α:Type):=Ts->Rs (α×Ts)
def many{σ α:Type}(step:σ->Ts->Rs ((σ×Ts)⊕(α×Ts))):Nat->σ->Pr α
 |0,_,_=>.bad 0
 |n+1,a,s=>(step a s).and λx=>match x with
  |.inl y=>many step n y.1 y.2
  |.inr y=>.ok y
def CI{σ α:Type}(step:σ->Ts->Rs ((σ×Ts)⊕(α×Ts))):Prop:=∀a s x,step a s=.ok x->match x with
 |.inl y=>y.2.length<s.length
 |.inr y=>y.2.length<=s.length
def aIz{σ α:Type}(step:σ->Ts->Rs ((σ×Ts)⊕(α×Ts)))(a:σ):Pr α:=λs=>many step (s.length+1) a s
def acd{σ α:Type}{step:σ->Ts->Rs ((σ×Ts)⊕(α×Ts))}(hs:CI step):∀(n m:Nat) (a:σ) (s:Ts),s.length<n->s.length<m->many step n a s=many step m a s
 |0,_,_,_,h,_=>by omega
 |_,0,_,_,_,h=>by omega
 |n+1,m+1,a,s,h1,h2=>by
  simp only[many];cases h:step a s with
  |bad e=>rfl
  |ok x=>
   have h3:=hs _ _ _ h;cases x with
   |inr y=>rfl
   |inl y=>have h3:y.2.length<s.length:=h3;exact acd hs n m y.1 y.2 (by omega) (by omega)
def aIQ{σ α:Type}{step:σ->Ts->Rs ((σ×Ts)⊕(α×Ts))}(hs:CI step)(a:σ)(s:Ts):aIz step a s=(step a s).and λx=>match x with
  |.inl y=>aIz step y.1 y.2
  |.inr y=>.ok y:=by
 show((step a s).and λx=>match x with
  |.inl y=>many step s.length y.1 y.2
  |.inr y=>.ok y)=_
 cases h:step a s with
 |bad e=>rfl
 |ok x=>
  have h3:=hs _ _ _ h;cases x with
  |inr y=>rfl
  |inl y=>have h3:y.2.length<s.length:=h3;exact acd hs _ _ y.1 y.2 (by omega) (by omega)
def azm{α:Type}(f:Pr α):Prop:=∀s x,f s=.ok x->x.2.length<=s.length
def aJu{α:Type}(f:Pr α):Prop:=∀s x,f s=.ok x->x.2.length<s.length
def ace{σ α:Type}{step:σ->Ts->Rs ((σ×Ts)⊕(α×Ts))}(hs:CI step):∀(n:Nat) (a:σ) (s:Ts) (x:α×Ts),many step n a s=.ok x->x.2.length<=s.length
 |0,_,_,_,h=>by cases h
 |n+1,a,s,x,h=>by
  simp only[many]at h;obtain⟨y,h1,h⟩:=Rs.iJ h;have h3:=hs _ _ _ h1;cases y with
  |inr y=>injection h with h;subst h;exact h3
  |inl y=>have h3:y.2.length<s.length:=h3;have:=ace hs n _ _ _ h;omega
def aa4{σ α:Type}{step:σ->Ts->Rs ((σ×Ts)⊕(α×Ts))}(hs:CI step)(a:σ):azm (aIz step a):=λs x h=>ace hs _ a s x h
def aHA(k:Nat)(t:ag)(s:Ts):Bool:=decide (s.head?=some (k,t))
def OB:Ts->Bool
 |(k,_)::_=>decide (k=0)
 |[]=>false
def U3:Nat×ag:=(2,[10])
def jK:Ts->Ts
 |[]=>[]
 |x::r=>if x=U3 then jK r else x::r
abbrev Il:ag:=[59]
abbrev HX:ag:=[59,59]
abbrev U4:ag:=[40]
abbrev Im:ag:=[41]
abbrev U5:ag:=[124]
abbrev Vz:ag:=[38,38]
abbrev WI:ag:=[124,124]
abbrev afY:ag:=[60]
abbrev afZ:ag:=[62]
abbrev afh:ag:=[62,62]
abbrev aIW:ag:=[33]
abbrev afi:ag:=[123]
abbrev axg:ag:=[125]
abbrev tIf:ag:=[105,102]
abbrev ax_:ag:=[116,104,101,110]
abbrev aya:ag:=[101,108,105,102]
abbrev ayb:ag:=[101,108,115,101]
abbrev tFi:ag:=[102,105]
abbrev tDo:ag:=[100,111]
abbrev ayc:ag:=[100,111,110,101]
abbrev ayd:ag:=[101,115,97,99]
abbrev afj:ag:=[119,104,105,108,101]
abbrev afk:ag:=[117,110,116,105,108]
abbrev agR:ag:=[102,111,114]
abbrev af0:ag:=[99,97,115,101]
def CJ:List ag:=[ax_,aya,ayb,tFi,tDo,ayc,ayd,axg]
def CK:Ts->Bool
 |[]=>true
 |(k,t)::_=>(decide (k=1)&&(decide (t=Im)||decide (t=HX)))||(decide (k=0)&&CJ.contains t)
def isName(t:ag):Bool:=decide (t≠[]/\bV t=t.length)
def pn:Pr (List Pt)
 |(k,t)::r=>if k=0 then(ef 30 t).and λl=>.ok (l,r)else .bad 100
 |[]=>.bad 100
def u9(s:Ts):Bool:=aHA 1 afY s||aHA 1 afZ s||aHA 1 afh s
def u_:Pr (ag×List Pt)
 |(_,op)::r=>(pn r).and λx=>.ok ((op,x.1),x.2)
 |[]=>.bad 100
def aIY(t:ag):Option (ag×ag):=if 0<bV t/\t[bV t]?=some 61 then some (t.take (bV t),t.drop (bV t+1))else none
def kY(a:List (List Pt)×List (ag×List Pt)×List (ag×List Pt))(s:Ts):Rs (((List (List Pt)×List (ag×List Pt)×List (ag×List Pt))×Ts)⊕(Nd×Ts)):=
 if u9 s=true then(u_ s).and λx=>.ok (.inl ((a.1,a.2.1,a.2.2++[x.1]),x.2))
 else match s with
 |(k,t)::r=>
  if k=0 then match(if a.1=[]then aIY t else none)with
   |some y=>(ef 30 y.2).and λl=>.ok (.inl ((a.1,a.2.1++[(y.1,l)],a.2.2),r))
   |none=>(ef 30 t).and λl=>.ok (.inl ((a.1++[l],a.2.1,a.2.2),r))
  else if a.1.length+a.2.1.length+a.2.2.length=0 then .bad 100 else .ok (.inr (.mk 0 false [] a.1 a.2.1 a.2.2 [] [],(k,t)::r))
 |[]=>if a.1.length+a.2.1.length+a.2.2.length=0 then .bad 100 else .ok (.inr (.mk 0 false [] a.1 a.2.1 a.2.2 [] [],[]))
def ki:Pr Nd:=aIz kY ([],[],[])
def Io(neg:Bool):List Nd->Nd
 |[k]=>if neg=true then .mk 1 true [] [] [] [] [] [k]else k
 |ks=>.mk 1 neg [] [] [] [] [] ks
def aIk(cmd:Pr Nd)(neg:Bool)(ks:List Nd)(s:Ts):Rs ((List Nd×Ts)⊕(Nd×Ts)):=
 if aHA 1 U5 s=true then(cmd (jK s.tail)).and λx=>.ok (.inl (ks++[x.1],x.2))else .ok (.inr (Io neg ks,s))
def CL(cmd:Pr Nd):Pr Nd:=λs=>
 (cmd (if aHA 0 aIW s=true then s.tail else s)).and λx=>aIz (aIk cmd (aHA 0 aIW s)) [x.1] x.2
def Bb(cmd:Pr Nd):Pr Nd:=CL cmd
def aJa(ks:List Nd):Nd:=.mk 3 false [] [] [] [] [] ks
def r_(cmd:Pr Nd)(ks:List Nd)(s:Ts):Rs ((List Nd×Ts)⊕(Nd×Ts)):=
 if CK s=true then .ok (.inr (aJa ks,s))
 else(Bb cmd s).and λx=>
  if aHA 1 Il x.2=true then .ok (.inl (ks++[x.1],jK x.2.tail))
  else if aHA 2 [10] x.2=true then .ok (.inl (ks++[x.1],jK x.2))
  else .ok (.inr (aJa (ks++[x.1]),x.2))
def EA(cmd:Pr Nd):Pr Nd:=λs=>aIz (r_ cmd) [] (jK s)
def CM:List (Nat×ag):=[(1,U4),(0,afi),(0,tIf),(0,afj),(0,afk),(0,agR),(0,af0),(0,aIW),(1,Vz),(1,WI)]++CJ.map λt=>(0,t)
def kF(_:Nat):Pr Nd×Unit:=(ki,())
def Ej(s:Ts):Rs Nd:=(EA (kF 30).1 s).and λx=>if x.2=[]then .ok x.1 else .bad 100
def Ai:∀s:Ts,(jK s).length<=s.length
 |[]=>aV _
 |x::r=>by
  have:=Ai r;simp only[jK];split
  .simp only[bf];omega
  .exact aV _
def L2{k:Nat}{t:ag}{s:Ts}(h:aHA k t s=true):s=(k,t)::s.tail:=by
 have h:=aR h;cases s with
 |nil=>cases h
 |cons a r=>rw[bU h];rfl
def T8{k:Nat}{t:ag}{s:Ts}(h:aHA k t s=true):s.tail.length+1=s.length:=by rw[L2 h];rfl
def T9(s:Ts):s.tail.length<=s.length:=by rw[List.length_tail];omega
def aan:aJu pn:=by
 intro s x h
 match s with
 |[]=>cases h
 |(k,t)::r=>
  simp only[pn]at h;split at h
  .obtain⟨l,_,h⟩:=Rs.iJ h
   injection h with h;subst h;exact aHP _
  .cases h
def aao:aJu u_:=by
 intro s x h
 match s with
 |[]=>cases h
 |(k,t)::r=>simp only[u_]at h;obtain⟨l,h1,h⟩:=Rs.iJ h;injection h with h;subst h;have:=aan _ _ h1;simp only[bf];omega
def wH:CI kY:=by
 intro a s x h;unfold kY at h;split at h
 .obtain⟨l,h1,h⟩:=Rs.iJ h
  injection h with h;subst h;exact aao _ _ h1
 .split at h
  .split at h
   .split at h<;>(obtain⟨l,h1,h⟩:=Rs.iJ h;injection h with h;subst h;exact aHP _)
   .split at h
    .cases h
    .injection h with h
     subst h;exact aV _
  .split at h
   .cases h
   .injection h with h
    subst h;exact aV _
def Lm:aJu ki:=by
 intro s x h;unfold ki at h;rw[aIQ wH]at h;obtain⟨y,h1,h⟩:=Rs.iJ h;have h2:=wH _ _ _ h1;cases y with
 |inl y=>have h2:y.2.length<s.length:=h2;have:=aa4 wH _ _ _ h;omega
 |inr y=>
  exfalso;unfold kY at h1;split at h1
  .obtain⟨l,_,h1⟩:=Rs.iJ h1
   cases h1
  .split at h1
   .split at h1
    .split at h1<;>(obtain⟨l,_,h1⟩:=Rs.iJ h1;cases h1)
    .simp at h1
   .simp at h1
def Se{cmd:Pr Nd}(hc:aJu cmd)(neg:Bool):CI (aIk cmd neg):=by
 intro a s x h;unfold aIk at h;split at h
 .rename_i hp
  obtain⟨l,h1,h⟩:=Rs.iJ h;injection h with h;subst h;have h2:=hc _ _ h1;have h3:=Ai s.tail;have h4:=T8 hp;show l.2.length<s.length
  omega
 .injection h with h
  subst h;exact aV _
def aqQ{cmd:Pr Nd}(hc:aJu cmd):aJu (CL cmd):=by intro s x h;obtain⟨y,h1,h⟩:=Rs.iJ h;have h2:=hc _ _ h1;have h3:=aa4 (Se hc _) _ _ _ h;have h4:=T9 s;split at h2<;>omega
def acf{cmd:Pr Nd}(hc:aJu cmd):aJu (Bb cmd):=aqQ hc
def Sf{cmd:Pr Nd}(hc:aJu cmd):CI (r_ cmd):=by
 intro a s x h;unfold r_ at h;split at h
 .injection h with h
  subst h;exact aV _
 .obtain⟨y,h1,h⟩:=Rs.iJ h
  have h2:=acf hc _ _ h1;have h3:=Ai y.2;have h4:=Ai y.2.tail;have h5:=T9 y.2;split at h
  .injection h with h
   subst h;show(jK y.2.tail).length<_
   omega
  .split at h
   .injection h with h
    subst h;show(jK y.2).length<_
    omega
   .injection h with h
    subst h;exact K2 h2
def adh(L:Nat):aJu (kF L).1/\True:=⟨Lm,trivial⟩
end Go.Proofs.YtihaaoehhgmphaaGreatDoor.L
namespace Go.Proofs.YtihaaoehhgmphaaGreatDoor.L
open IntKind Go.RowKit Vc
variable{w:World}
def aJx:cA (List Pt)where
 sz:=1
 E:=λw F x cs=>∃v,cs=[v]/\cD w F x v
 len:=by rintro w F x cs ⟨v,rfl,_⟩;rfl
 one:=by rintro w F x cs ⟨v,rfl,h⟩ u hu;rw[gE.1 hu];exact h.one
 dN:=by rintro w w' F G x cs hF hw ⟨v,rfl,h⟩;exact⟨v,rfl,h.dN hF hw⟩
def aHO:cA (ag×List Pt)where
 sz:=2
 E:=λw F x cs=>∃v,cs=[.string (S x.1),v]/\cD w F x.2 v
 len:=by rintro w F x cs ⟨v,rfl,_⟩;rfl
 one:=by
  rintro w F x cs ⟨v,rfl,h⟩ u hu;simp only[aHs,uf,uj]at hu;rcases hu with rfl|rfl;·rfl
  .exact h.one
 dN:=by rintro w w' F G x cs hF hw ⟨v,rfl,h⟩;exact⟨v,rfl,h.dN hF hw⟩
def Fb:cA ag where
 sz:=1
 E:=λ_ _ x cs=>cs=[.string (S x)]
 len:=by rintro w F x cs rfl;rfl
 one:=by rintro w F x cs rfl u hu;rw[gE.1 hu];rfl
 dN:=by rintro w w' F G x cs _ _ rfl;rfl
def WJ:cA (Nat×ag)where
 sz:=2
 E:=λ_ _ x cs=>cs=[.int .i64 (x.1:Int),.string (S x.2)]
 len:=by rintro w F x cs rfl;rfl
 one:=by rintro w F x cs rfl u hu;simp only[aHs,uf,uj]at hu;rcases hu with rfl|rfl<;>rfl
 dN:=by rintro w w' F G x cs _ _ rfl;rfl
mutual
def ey(w:World)(F:Nat->Prop):Nd->List Value->Prop
 |.mk k neg nm ws gA rs os ks,cs=>∃vw va vr vo p c,cs=[.int .i64 k,.bool neg,.string (S nm),vw,va,vr,vo,.slice p ks.length c]/\aJx.At w F ws vw/\aHO.At w F gA va/\aHO.At w F rs vr/\Fb.At w F os vo/\ks.length<=c/\
   (ks≠[]->∃b xs,p=some b/\F b.block/\tF w F ks xs/\aH7 w b xs)
def tF(w:World)(F:Nat->Prop):List Nd->List Value->Prop
 |[],xs=>xs=[]
 |x::r,xs=>∃cs ys,xs=cs++ys/\ey w F x cs/\tF w F r ys
end
mutual
def ey.dN{F G:Nat->Prop}{w':World}(hF:∀k,F k->G k)(hw:∀a v,(∃k,F k/\a.block=k)->w.cell? a=some v->w'.cell? a=some v):∀{x:Nd} {cs:List Value},ey w F x cs->ey w' G x cs
 |.mk k neg nm ws gA rs os ks,cs,h=>by simp only[ey]at h⊢;obtain⟨vw,va,vr,vo,p,c,h1,h2,h3,h4,h5,h6,h7⟩:=h;refine⟨vw,va,vr,vo,p,c,h1,h2.dN hF hw,h3.dN hF hw,h4.dN hF hw,h5.dN hF hw,h6,λhl=>?_⟩;obtain⟨b,xs,hb,h8,h9,h10⟩:=h7 hl;exact⟨b,xs,hb,hF _ h8,tF.dN hF hw h9,λj u hu=>hw _ _ ⟨_,h8,D_ b j⟩ (h10 j u hu)⟩
def tF.dN{F G:Nat->Prop}{w':World}(hF:∀k,F k->G k)(hw:∀a v,(∃k,F k/\a.block=k)->w.cell? a=some v->w'.cell? a=some v):∀{l:List Nd} {xs:List Value},tF w F l xs->tF w' G l xs
 |[],xs,h=>by simp only[tF]at h⊢;exact h
 |x::r,xs,h=>by simp only[tF]at h⊢;obtain⟨cs,ys,h1,h2,h3⟩:=h;exact⟨cs,ys,h1,ey.dN hF hw h2,tF.dN hF hw h3⟩
end
def ey.raw{F:Nat->Prop}{x:Nd}{cs:List Value}(h:ey w F x cs):∃vw va vr vo vk,cs=[.int .i64 x.k,.bool x.neg,.string (S x.nm),vw,va,vr,vo,vk]/\vw.oneCell'=true/\va.oneCell'=true/\vr.oneCell'=true/\vo.oneCell'=true/\vk.oneCell'=true:=by
 cases x with
 |mk k neg nm ws gA rs os ks=>simp only[ey]at h;obtain⟨vw,va,vr,vo,p,c,h1,h2,h3,h4,h5,_⟩:=h;exact⟨vw,va,vr,vo,_,h1,h2.one,h3.one,h4.one,h5.one,rfl⟩
def vR:cA Nd where
 sz:=8
 E:=ey
 len:=by intro w F x cs h;obtain⟨vw,va,vr,vo,vk,rfl,_⟩:=h.raw;rfl
 one:=by intro w F x cs h u hu;obtain⟨vw,va,vr,vo,vk,rfl,h1,h2,h3,h4,h5⟩:=h.raw;simp only[aHs,uf,uj]at hu;rcases hu with rfl|rfl|rfl|rfl|rfl|rfl|rfl|rfl<;>first|rfl|assumption
 dN:=λhF hw h=>h.dN hF hw
def NM{F:Nat->Prop}:∀{l:List Nd} {xs:List Value},tF w F l xs↔vR.Cs w F l xs
 |[],xs=>by simp only[tF];exact Iff.rfl
 |x::r,xs=>by
  simp only[tF];constructor
  .rintro⟨cs,ys,h1,h2,h3⟩
   exact⟨cs,ys,h1,h2,NM.1 h3⟩
  .rintro⟨cs,ys,h1,h2,h3⟩
   exact⟨cs,ys,h1,h2,NM.2 h3⟩
abbrev aHJ(x:Nd)(vw va vr vo vk:Value):List Value:=[.int .i64 x.k,.bool x.neg,.string (S x.nm),vw,va,vr,vo,vk]
def ey.of{F:Nat->Prop}{x:Nd}{vw va vr vo vk:Value}(h1:aJx.At w F x.ws vw)(h2:aHO.At w F x.gA va)(h3:aHO.At w F x.rs vr)(h4:Fb.At w F x.os vo)(h5:vR.At w F x.ks vk):ey w F x (aHJ x vw va vr vo vk):=by
 cases x with
 |mk k neg nm ws gA rs os ks=>obtain⟨p,c,rfl,h6,h7⟩:=h5;simp only[ey];refine⟨vw,va,vr,vo,p,c,rfl,h1,h2,h3,h4,h6,λhl=>?_⟩;obtain⟨b,xs,h8,h9,h10,h11⟩:=h7 hl;exact⟨b,xs,h8,h9,NM.2 h10,h11⟩
def ey.out{F:Nat->Prop}{x:Nd}{cs:List Value}(h:ey w F x cs):∃vw va vr vo vk,cs=aHJ x vw va vr vo vk/\aJx.At w F x.ws vw/\aHO.At w F x.gA va/\aHO.At w F x.rs vr/\Fb.At w F x.os vo/\vR.At w F x.ks vk:=by
 cases x with
 |mk k neg nm ws gA rs os ks=>simp only[ey]at h;obtain⟨vw,va,vr,vo,p,c,h1,h2,h3,h4,h5,h6,h7⟩:=h;refine⟨vw,va,vr,vo,_,h1,h2,h3,h4,h5,p,c,rfl,h6,λhl=>?_⟩;obtain⟨b,xs,h8,h9,h10,h11⟩:=h7 hl;exact⟨b,xs,h8,h9,NM.1 h10,h11⟩
def ey.outs{F:Nat->Prop}{x:Nd}{cs:List Value}(h:ey w F x cs):∃pw cw pa ca pr cr po co pk ck,cs=aHJ x (.slice pw x.ws.length cw) (.slice pa x.gA.length ca) (.slice pr x.rs.length cr) (.slice po x.os.length co) (.slice pk x.ks.length ck)/\
  aJx.At w F x.ws (.slice pw x.ws.length cw)/\aHO.At w F x.gA (.slice pa x.gA.length ca)/\aHO.At w F x.rs (.slice pr x.rs.length cr)/\Fb.At w F x.os (.slice po x.os.length co)/\vR.At w F x.ks (.slice pk x.ks.length ck):=by
 obtain⟨vw,va,vr,vo,vk,rfl,h1,h2,h3,h4,h5⟩:=h.out;obtain⟨pw,cw,rfl⟩:=h1.form;obtain⟨pa,ca,rfl⟩:=h2.form;obtain⟨pr,cr,rfl⟩:=h3.form;obtain⟨po,co,rfl⟩:=h4.form;obtain⟨pk,ck,rfl⟩:=h5.form;exact⟨pw,cw,pa,ca,pr,cr,po,co,pk,ck,rfl,h1,h2,h3,h4,h5⟩
def ey.mono{F G:Nat->Prop}{x:Nd}{cs:List Value}(hF:∀k,F k->G k)(h:ey w F x cs):ey w G x cs:=h.dN hF λ_ _ _ h=>h
def ey.mod{F S:Nat->Prop}{w':World}{x:Nd}{cs:List Value}(h:ey w F x cs)(hm:Mod S w w')(hS:∀k,F k->¬S k):ey w' F x cs:=
 h.dN (λ_ h=>h) λa v ⟨k,hk,ea⟩ hc=>wT hm (by rw[ea];exact hS k hk) hc
def ey.still{F:Nat->Prop}{w':World}{x:Nd}{cs:List Value}(h:ey w F x cs)(hm:Still w w'):ey w' F x cs:=h.mod hm λ_ _ h=>h
end Go.Proofs.YtihaaoehhgmphaaGreatDoor.L
namespace Go.Proofs.YtihaaoehhgmphaaGreatDoor.A
open IntKind Go.RowKit Vc
def aqR(p q r:Addr)(w:World):
  CallsD aM 21 #[.pointer (some p),.pointer (some q),.pointer (some r)] .returning w λe u' w'=>e=.returned (.tuple #[])/\u'=.returning/\w'=w:=by
 refine callsD_of_wpS Tryz.func21 rfl λc₀ cs hu=>?_;apply wpS_seq;apply wpS_region;simp[wpOpsS,go_sem,recoverD,hu,Tryz.ntmps21,Exit.thenS];apply wpS_seq;apply wpS_region;simp[wpOpsS,go_sem,Tryz.ntmps21,Exit.thenS];refine wpS_cond (t:=false) (by simp[Act.eval,Array.replicate]) ?_;simp only[kV,iV];refine wpS_of_wp (wp_skip ?_);cases c₀;simp_all [bodyPostS,results,Tryz.results21]
def ao0(p q r:Addr)(n:Int)(w:World)(hp:Wr w.drew p)(hq:Wr (w.drew.setCell p (.int .i64 0)) q)(hr:Wr ((w.drew.setCell p (.int .i64 0)).setCell q (.slice none 0 0)) r):
  CallsD aM 21 #[.pointer (some p),.pointer (some q),.pointer (some r)] (.panicking [{v:=.iface 28 (.int .i64 n),recovered:=false}]) w λe u' w'=>e=.returned (.tuple #[])/\settle u'=.returning/\w'=((w.drew.setCell p (.int .i64 0)).setCell q (.slice none 0 0)).setCell r (.int .i64 n):=by
 refine callsD_of_wpS Tryz.func21 rfl λc₀ cs hu=>?_;apply wpS_seq;apply wpS_region;simp[wpOpsS,go_sem,recoverD,hu,Tryz.ntmps21,Exit.thenS];apply wpS_seq;apply wpS_region;simp[wpOpsS,go_sem,Tryz.ntmps21,Exit.thenS];refine wpS_cond (t:=true) (by simp[Act.eval,Array.replicate]) ?_;simp only[nu];refine wpS_of_wp ?_;have et:(#[Value.pointer (some p),Value.pointer (some q),Value.pointer (some r)]++((((Array.replicate 6 undef).setIfInBounds 1 (Value.iface 28 (Value.int i64 n))).setIfInBounds 0 (Value.iface 28 (Value.int i64 n))).setIfInBounds 2 (Value.iface 28 (Value.int i64 n))).setIfInBounds 3 (Value.bool true))=
   ⟨[.pointer (some p),.pointer (some q),.pointer (some r),.iface 28 (.int .i64 n),.iface 28 (.int .i64 n),.iface 28 (.int .i64 n),.bool true,undef,undef]⟩:=by rfl
 rw[et];refine D0 (P:=aM) (m:=.held) (ds:=[]) (l:=[.pointer (some p),.pointer (some q),.pointer (some r),.iface 28 (.int .i64 n),.iface 28 (.int .i64 n),.iface 28 (.int .i64 n),.bool true,undef,undef]) (K:=λl' w'=>w'=((w.drew.setCell p (.int .i64 0)).setCell q (.slice none 0 0)).setCell r (.int .i64 n)) (E:=λ_ _=>False) (Eq.mp (α:=∃Sw:World->Prop,Sw w.drew/\(Wr w.drew p/\Wr (w.drew.setCell p (.int .i64 0)) q/\Wr ((w.drew.setCell p (.int .i64 0)).setCell q (.slice none 0 0)) r/\((w.drew.setCell p (.int .i64 0)).setCell q (.slice none 0 0)).setCell r (.int .i64 n)=((w.drew.setCell p (.int .i64 0)).setCell q (.slice none 0 0)).setCell r (.int .i64 n))/\(Wr w.drew p/\(Wr (w.drew.setCell p (.int .i64 0)) q/\Wr ((w.drew.setCell p (.int .i64 0)).setCell q (.slice none 0 0)) r/\((w.drew.setCell p (.int .i64 0)).setCell q (.slice none 0 0)).setCell r (.int .i64 n)=((w.drew.setCell p (.int .i64 0)).setCell q (.slice none 0 0)).setCell r (.int .i64 n))/\(Wr (w.drew.setCell p (.int .i64 0)) q/\Wr ((w.drew.setCell p (.int .i64 0)).setCell q (.slice none 0 0)) r/\((w.drew.setCell p (.int .i64 0)).setCell q (.slice none 0 0)).setCell r (.int .i64 n)=((w.drew.setCell p (.int .i64 0)).setCell q (.slice none 0 0)).setCell r (.int .i64 n)))) (by kernel_rfl) ⟨λ_=>True,trivial,⟨hp,hq,hr,rfl⟩,hp,⟨hq,hr,rfl⟩,hq,hr,rfl⟩) ?_ ?_
 .rintro l' w' _ rfl
  cases c₀;simp_all [bodyPostS,results,Tryz.results21,act,settle];rfl
 .intro l' c w' _ h
  exact h.elim
abbrev aJy:ag:=[32,41,9]
def aye(c:UInt8):Bool:=pg.any λo=>o.contains c
def oc(s:ag):Nat:=(s.filter aye).length
def up:Md->Md
 |.expr d=>.expr (d+1)
 |.h_ d=>.h_ (d+1)
 |.aHk l d=>.aHk l (d+1)
 |.loop l d a=>.loop l (d+1) a
 |.sig d=>.sig (d+1)
end Go.Proofs.YtihaaoehhgmphaaGreatDoor.A
namespace Go.Proofs.YtihaaoehhgmphaaGreatDoor
open IntKind Go.RowKit Vc
variable{w:World}{T g o B:Nat}{cs:List Value}{v:Value}{bs:List UInt8}
def aqS(hr:Row w g T ⟨cs⟩)(hlt:o+1<cs.length):aq PX #[.pointer (some ⟨g,o,none⟩)] w
  (λe w'=>e=.returned (.tuple #[])/\eE w' T g o B ((cs.set o (.pointer none)).set (o+1) (.slice none 0 0)) (.slice none 0 0) []/\Mod (λk=>k=g) w w'):=by
 apply akd;refine dO hr (by simp;omega) (by simp[Value.oneCell']) λw1 aHc bW hz1=>?_;show cJ (Addr.add _ 1) _ _ _ _
 rw[aHa];refine dO aHc (by simp[fh];omega) (by simp[Value.oneCell']) λw2 hr2 hm2 jz=>⟨rfl,eE.fresh hr2 ?_ ?_,Mod.trans bW hm2 (λ_ h=>h) (λ_ _ h=>h)⟩
 .show((cs.set o _).set (o+1) _)[o]?=_
  rw[rJ (by omega),sW (by omega)]
 .exact sW (by simp;omega)
end Go.Proofs.YtihaaoehhgmphaaGreatDoor
namespace Go.Proofs.YtihaaoehhgmphaaGreatDoor
open IntKind Go.RowKit Vc
set_option maxRecDepth 100000
variable{w:World}
def IJ(l:List (ag×Value)):List KV:=l.map λx=>(.string (S x.1),x.2)
def oM(w:World)(g:Nat)(l:List (ag×Value)):Prop:=dM w g (IJ l)/\∀x∈l,x.1.length<=1000
def oM.new(w:World):oM (w.alloc (.map #[] 0)) w.heap.size []:=⟨dM.new w,λx hx=>by cases hx⟩
def oM.mod{S:Nat->Prop}{w':World}{g:Nat}{l:List (ag×Value)}(h:oM w g l)(hm:Mod S w w')(hg:¬S g):oM w' g l:=⟨h.1.mod hm hg,h.2⟩
def T_{l:List (ag×Value)}(h:∀x∈l,x.1.length<=1000):∀p∈IJ l,∃lk,keyOf aM cm p.1=some lk:=λp hp=>by obtain⟨x,hx,rfl⟩:=dY.1 hp;exact⟨_,rR rfl (qJ (h x hx))⟩
def dF{T te:TypeId}(hT:Tryz.prog.underlying T=some (.map cm te)){g:Nat}{l:List (ag×Value)}(h:oM w g l){k:ag}{v:Value}(hk:k.length<=1000)(hn:(l.all λx=>!decide (x.1=k))=true){K:World->Prop}
  (hK:∀w',oM w' g (l++[(k,v)])->Mod (λi=>i=g) w w'->w'.heap.size=w.heap.size->K w'):d_ aM T (.map (some g)) (.string (S k)) v w K:=by
 obtain⟨w',h1,h2,h3,h4⟩:=ME wX hT h.1 (rR rfl (qJ hk)) (T_ h.2) (λp hp e=>by obtain⟨x,hx,rfl⟩:=dY.1 hp;have:=pY.1 hn x hx;simp[str_inj e]at this) v;refine⟨w',h1,hK w' ⟨by simpa[IJ]using h2,λx hx=>?_⟩ h3 h4⟩;rcases kW.1 hx with hx|hx
 .exact h.2 x hx
 .obtain rfl:=gE.1 hx
  exact hk
def afl{T te:TypeId}(hT:Tryz.prog.underlying T=some (.map cm te)){z:Value}(hz:∀w,(zeroValue te).run aM w=.ok z w){g:Nat}{l:List (ag×Value)}(h:oM w g l){k:ag}{v:Value}(hv:(k,v)∈l){K:Value->Bool->Prop}(hK:K v true):AQ aM T (.map (some g)) (.string (S k)) w K:=by
 rcases Ee wX hT (hz w) h.1 (rR rfl (qJ (h.2 _ hv))) (T_ h.2) true with⟨v',h1,h2⟩|⟨h1,_⟩
 .have nd:((IJ l).map Prod.fst).Nodup:=by
   obtain⟨ms,c,_,hG⟩:=h.1;exact hG.nodup
  have e:v'=v:=by
   have m2:(Value.string (S k),v)∈IJ l:=dY.2 ⟨_,hv,rfl⟩;have key:∀(es:List KV),(es.map Prod.fst).Nodup->∀{a b c:Value},(a,b)∈es->(a,c)∈es->b=c:=by
    intro es
    induction es with
    |nil=>intro _ a b c h;cases h
    |cons x r ih=>
     intro nd a b c h1 h2;rw[gI,Q6]at nd;rcases aHs.1 h1 with e1|h1
     .rcases aHs.1 h2 with e2|h2
      .exact(aJ5 (e1.trans e2.symm)).2
      .exact absurd (dY.2 ⟨_,h2,by rw[<-e1]⟩) nd.1
     .rcases aHs.1 h2 with e2|h2
      .exact absurd (dY.2 ⟨_,h1,by rw[<-e2]⟩) nd.1
      .exact ih nd.2 h1 h2
   exact key _ nd h1 m2
  subst e;exact⟨_,true,h2,hK⟩
 .exact absurd rfl (h1 (.string (S k),v) (dY.2 ⟨_,hv,rfl⟩))
def aen{T te:TypeId}(hT:Tryz.prog.underlying T=some (.map cm te)){z:Value}(hz:∀w,(zeroValue te).run aM w=.ok z w){g:Nat}{l:List (ag×Value)}(h:oM w g l){k:ag}(hk:k.length<=1000)(hn:(l.all λx=>!decide (x.1=k))=true){K:Value->Bool->Prop}(hK:K z false):AQ aM T (.map (some g)) (.string (S k)) w K:=by
 rcases Ee wX hT (hz w) h.1 (rR rfl (qJ hk)) (T_ h.2) true with⟨v',h1,_⟩|⟨_,h2⟩
 .obtain⟨x,hx,e⟩:=dY.1 h1
  have:=pY.1 hn x hx;simp[str_inj (aJ5 e).1]at this
 .exact⟨_,false,h2,hK⟩
end Go.Proofs.YtihaaoehhgmphaaGreatDoor
namespace Go.Proofs.YtihaaoehhgmphaaGreatDoor.P
open IntKind Go.RowKit Vc
abbrev sw:=UInt8->Bool
structure Pc where
 star:Bool
 set:sw
def single:List UInt8->UInt8×List UInt8
 |[]=>(0,[])
 |[a]=>(a,[])
 |a::b::r=>if a=92 then(b,r)else(a,b::r)
def aJF(S:sw)(lo hi:UInt8):sw:=λc=>S c||(decide (lo.toNat<=c.toNat)&&decide (c.toNat<=hi.toNat))
def dash(lo:UInt8)(s:List UInt8):UInt8×List UInt8:=match s with
 |a::c::r=>if a=45/\c≠93 then single (c::r)else(lo,s)
 |_=>(lo,s)
def axh(s:List UInt8)(first:Bool):Bool:=match s with
 |[]=>false
 |a::_=>first||decide (a≠93)
def agS:Nat->List UInt8->Bool->sw->sw×List UInt8
 |0,s,_,S=>(S,s)
 |n+1,s,first,S=>if axh s first=true then agS n (dash (single s).1 (single s).2).2 false (aJF S (single s).1 (dash (single s).1 (single s).2).1)else(S,s)
def UL:List UInt8->List UInt8×Bool
 |[]=>([],false)
 |a::r=>if a=33 then(r,true)else(a::r,false)
def mkSet(s:List UInt8):Option (sw×List UInt8):=
 match agS ((UL s).1.length+1) (UL s).1 true (λ_=>false)with
 |(_,[])=>none
 |(S,_::r)=>some (λc=>S c !=(UL s).2,r)
def af1(p:List UInt8):sw×List UInt8:=match p with
 |[]=>(λ_=>false,[])
 |a::r=>if a=63 then(λ_=>true,r)else if a=91 then(match mkSet r with
  |some x=>x
  |none=>(λc=>decide (c=91),r))else(λc=>decide (c=(single (a::r)).1),(single (a::r)).2)
def pieces:Nat->List UInt8->List Pc
 |0,_=>[]
 |_+1,[]=>[]
 |n+1,a::r=>if a=42 then⟨true,λ_=>false⟩::pieces n r else⟨false,(af1 (a::r)).1⟩::pieces n (af1 (a::r)).2
def WK(p:List UInt8):List Pc:=pieces p.length p
def plain:List UInt8->List UInt8
 |[]=>[]
 |[a]=>[a]
 |a::b::r=>if a=92 then b::plain r else a::plain (b::r)
def AL(a:UInt8):Bool:=a==42||a==63||a==91
def aH3:List UInt8->Bool
 |[]=>false
 |[a]=>AL a
 |a::b::r=>if AL a then true else if a=92 then aH3 r else aH3 (b::r)
def escape(s:List UInt8):List UInt8:=s.flatMap λc=>[92,c]
def ZL{p:List UInt8}(h:p≠[]):(single p).2.length<p.length:=by
 match p,h with
 |[a],_=>simp[single]
 |a::b::r,_=>simp only[single];split<;>simp<;>omega
def aqT{p:List UInt8}(h:p≠[]):plain p=(single p).1::plain (single p).2:=by
 match p,h with
 |[a],_=>rfl
 |a::b::r,_=>simp only[plain,single];split<;>rfl
def ao1(a:UInt8)(r:List UInt8):aH3 (a::r)=(AL a||aH3 (single (a::r)).2):=by
 cases r with
 |nil=>simp[aH3,single]
 |cons b r=>
  simp only[aH3,single];cases h:AL a
  .simp only[kV,iV,yh];split<;>rfl
  .simp
def R4:∀(p:List UInt8),(plain p).length<=p.length
 |[]=>aV _
 |[a]=>aV _
 |a::b::r=>by have h1:=R4 r;have h2:=R4 (b::r);simp only[plain];simp only[bf]at h2⊢;split<;>simp<;>omega
end Go.Proofs.YtihaaoehhgmphaaGreatDoor.P
namespace Go.Proofs.YtihaaoehhgmphaaGreatDoor
open IntKind Go.RowKit Vc
variable{w:World}
def Row.at{w:World}{g:Nat}{t:TypeId}{cs:List Value}(h:Row w g t ⟨cs⟩){k:Nat}{v:Value}(hv:cs[k]?=some v):w.cell? ((Addr.mk g 0 none).add (k*1))=some v:=by rw[aHa,cQ,aHp];exact h.dy (by simpa using hv)
def Row.zx{w:World}{g:Nat}{t:TypeId}{cs:List Value}(h:Row w g t ⟨cs⟩){k:Nat}{v:Value}(hv:cs[k]?=some v):w.cell? ((Addr.mk g 0 none).add k)=some v:=by rw[aHa,cQ];exact h.dy (by simpa using hv)
def Row.CW{w:World}{g:Nat}{t:TypeId}{cs:List Value}(h:Row w g t ⟨cs⟩){k:Nat}(hk:k<cs.length):Wr w ((Addr.mk g 0 none).add (k*1)):=by rw[aHa,cQ,aHp];exact h.wr _ (by simpa using hk)
def Row.setAt{w:World}{g:Nat}{t:TypeId}{cs:List Value}(h:Row w g t ⟨cs⟩)(k:Nat)(u:Value):Row (w.setCell ((Addr.mk g 0 none).add (k*1)) u) g t ⟨cs.set k u⟩:=by rw[aHa,cQ,aHp];exact h.fW _ _
def Row.Ip{w:World}{g p:Nat}{t:TypeId}{cs:Array Value}(h:Row w g t cs)(hne:g≠p)(k:Nat)(u:Value):Row (w.setCell ((Addr.mk p 0 none).add (k*1)) u) g t cs:=by rw[aHa,cQ,aHp];exact h.far hne _
def Mod.setAt{S:Nat->Prop}{a b:World}(h:Mod S a b){p:Nat}(hp:S p\/a.heap.size<=p)(k:Nat)(u:Value):Mod S a (b.setCell ((Addr.mk p 0 none).add (k*1)) u):=by rw[aHa,cQ,aHp];exact h.setCell hp _
def Nh:Value->Bool
 |.int .u32 _=>true
 |_=>false
structure Ws(n:Nat)(l:List Value):Prop where
 len:l.length=n
 all:l.all Nh=true
def aId{v:Value}(h:Nh v=true):∃x:Int,v=.int .u32 x:=by
 unfold Nh at h;split at h
 .exact⟨_,rfl⟩
 .cases h
def Ws.get{n k:Nat}{l:List Value}(h:Ws n l)(hk:k<n):∃x:Int,l[k]?=some (.int .u32 x):=by
 have hk':k<l.length:=by rw[h.len];exact hk
 obtain⟨x,hx⟩:=aId (pY.1 h.all _ (kI hk'));exact⟨x,by rw[gW hk',hx]⟩
def Ws.set{n:Nat}{l:List Value}(h:Ws n l)(k:Nat)(x:Int):Ws n (l.set k (.int .u32 x)):=⟨by rw[zY];exact h.len,pY.2 λv hv=>by
 rcases List.mem_or_eq_of_mem_set hv with hv|rfl
 .exact pY.1 h.all v hv
 ·rfl⟩
def Ws.one{n:Nat}{l:List Value}(h:Ws n l):∀v∈l,v.oneCell'=true:=λv hv=>by obtain⟨x,rfl⟩:=aId (pY.1 h.all v hv);rfl
def Ws.eight{l:List Value}(h:Ws 8 l):∃s0 s1 s2 s3 s4 s5 s6 s7:Int,l=[.int .u32 s0,.int .u32 s1,.int .u32 s2,.int .u32 s3,.int .u32 s4,.int .u32 s5,.int .u32 s6,.int .u32 s7]:=by
 obtain⟨hl,ha⟩:=h
 match l,hl,ha with
 |[v0,v1,v2,v3,v4,v5,v6,v7],_,ha=>simp only[yj,List.all_nil,aHo]at ha;obtain⟨h0,h1,h2,h3,h4,h5,h6,h7,_⟩:=ha;obtain⟨s0,rfl⟩:=aId h0;obtain⟨s1,rfl⟩:=aId h1;obtain⟨s2,rfl⟩:=aId h2;obtain⟨s3,rfl⟩:=aId h3;obtain⟨s4,rfl⟩:=aId h4;obtain⟨s5,rfl⟩:=aId h5;obtain⟨s6,rfl⟩:=aId h6;obtain⟨s7,rfl⟩:=aId h7;exact⟨_,_,_,_,_,_,_,_,rfl⟩
def Ws.zero(n:Nat):Ws n (List.replicate n (.int .u32 0)):=⟨PZ,by simp[Nh]⟩
def asB:∀n:Fin 32,n.val≠0->bits .and .u64 (u64.wrap (i64.wrap (0-(n.val:Int)))) 31=((32-n.val:Nat):Int):=by decide
def wK(x:Int)(n:Nat)(h0:n≠0)(h1:n<32):aq aIM #[.int .u32 x,.int .i64 (n:Int)] w (λe w'=>(∃y:Int,e=.returned (.int .u32 y))/\w'=w):=by
 apply ams;have hr:=asB ⟨n,h1⟩ h0;dsimp only at hr;have hw:u64.wrap (32-((32-n:Nat):Int))=((n:Nat):Int):=by rw[wrap_u64 (by omega) (by omega)];omega
 refine Calls.mono (aj3 _ _ _ (λe w'=>(∃y:Int,e=.returned (.int .u32 y))/\w'=w) ?_) ?_
 .unfold Ye
  simp only[hr,hw];exact⟨by omega,by omega,⟨_,rfl⟩,rfl⟩
 .rintro _ w' ⟨⟨y,rfl⟩,rfl⟩
  exact .inl ⟨_,rfl,⟨_,rfl⟩,rfl⟩
def asC(b:List UInt8)(h:4<=b.length):aq RH #[.string (S b)] w (λe w'=>(∃y:Int,e=.returned (.int .u32 y))/\w'=w.drew):=by
 apply am4
 match b,h with
 |b0::b1::b2::b3::r,_=>exact⟨by decide,b0,rfl,by decide,by decide,b1,rfl,by decide,by decide,b2,rfl,by decide,by decide,b3,rfl,⟨_,rfl⟩,rfl⟩
def aqU(b:List UInt8)(hb:b.length=64):aq Rw #[.string (S b)] w (λe w'=>(∃l,Ws 64 l/\e=.returned (.agg ⟨l⟩))/\Still w w'):=by
 apply amM;refine⟨λx w1=>∃(i:Nat) (l:List Value),x=(i:Int)/\i<=64/\Ws 64 l/\Row w1 w.heap.size 474 ⟨l⟩/\Still w w1,λx _=>(64-x).toNat,⟨0,_,rfl,by decide,Ws.zero 64,Row.new _ _ _,(Mod.refl _ _).alloc _⟩,?_⟩;rintro _ _ w1 ⟨i,l,rfl,hi,hl,hr,hm⟩;have w1e:i64.wrap ((i:Int)+1)=((i+1:Nat):Int):=wI;refine aA (λhx=>?_) (λhx=>?_)
 .have hx:=aR hx
  have hx':i<64:=by omega
  refine aA (λaHH=>?_) (λaHH=>?_)
  .have aHH:=aR aHH
   have w4:i64.wrap (4*(i:Int))=((4*i:Nat):Int):=wI;rw[w4,b6];refine⟨by omega,by omega,(asC _ (by simp;omega)).mono ?_⟩;rintro _ w2 ⟨⟨y,rfl⟩,rfl⟩;refine .inl ⟨_,rfl,by omega,by omega,?_⟩;rw[w1e,b6];exact⟨hr.drew.CW (by rw[hl.len];omega),⟨i+1,_,rfl,by omega,hl.set i y,hr.drew.setAt _ _,hm.drew.setAt (.inr (aV _)) _ _⟩,by dsimp only;omega⟩
  .have aHH:=aX aHH
   have e15:i64.wrap ((i:Int)-15)=((i-15:Nat):Int):=wI;have e2:i64.wrap ((i:Int)-2)=((i-2:Nat):Int):=wI;have e16:i64.wrap ((i:Int)-16)=((i-16:Nat):Int):=wI;have e7:i64.wrap ((i:Int)-7)=((i-7:Nat):Int):=wI;obtain⟨x1,g1⟩:=hl.get (k:=i-15) (by omega);obtain⟨x2,g2⟩:=hl.get (k:=i-2) (by omega);obtain⟨x3,g3⟩:=hl.get (k:=i-16) (by omega);obtain⟨x4,g4⟩:=hl.get (k:=i-7) (by omega);simp only[e15,e2,e16,e7,w1e,b6];refine⟨by omega,by omega,_,hr.at g1,by omega,by omega,_,hr.at g2,λwq=>Row wq w.heap.size 474 ⟨l⟩,hr.drew.drew,by omega,by omega,_,λwq hq=>hq.at g3,by omega,by omega,_,λwq hq=>hq.at g4,by decide,by decide,?_⟩;refine(wK _ 7 (by decide) (by decide)).mono ?_;rintro _ _ ⟨⟨y1,rfl⟩,rfl⟩;refine .inl ⟨_,rfl,hr.drew.drew,(wK _ 18 (by decide) (by decide)).mono ?_⟩;rintro _ _ ⟨⟨y2,rfl⟩,rfl⟩;refine .inl ⟨_,rfl,hr.drew.drew,(wK _ 17 (by decide) (by decide)).mono ?_⟩;rintro _ _ ⟨⟨y3,rfl⟩,rfl⟩;refine .inl ⟨_,rfl,hr.drew.drew,(wK _ 19 (by decide) (by decide)).mono ?_⟩;rintro _ _ ⟨⟨y4,rfl⟩,rfl⟩;exact .inl ⟨_,rfl,hr.drew.drew,by omega,by omega,hr.drew.drew.CW (by rw[hl.len];omega),⟨i+1,_,rfl,by omega,hl.set i _,hr.drew.drew.setAt _ _,hm.drew.drew.setAt (.inr (aV _)) _ _⟩,by omega⟩
 .have hs:=hl.len
  refine⟨l,hs,λj u hu=>?_,hs,hl.one,w.heap.size,0,l,474,rfl,hr,by simp,l,hs,λj u hu=>?_,⟨l,hl,rfl⟩,hm.setRow (.inr (aV _)) _⟩
  .rw[aHa,cQ]
   exact hr.dy (by simpa using hu)
  .rw[aHa,cQ]
   exact(hr.setRow _ (by simp)).dy (by simpa using hu)
def asD{vs:List Value}(h:Ws 64 vs){R:Ending->World->Prop}(hR:∀w',Still w w'->R (.returned (.agg ⟨vs⟩)) w'):
  vs.length=64/\(∀v∈vs,v.oneCell'=true)/\∃(g o:Nat) (cur:List Value) (ty:TypeId),Addr.mk w.heap.size 0 none=Addr.mk g o none/\Row (w.alloc (.cells ⟨List.replicate 64 (.int .u32 0)⟩ 474)) g ty ⟨cur⟩/\o+vs.length<=cur.length/\
   ∃v:List Value,v.length=64/\(∀(j:Nat) (u:Value),v[j]?=some u->((w.alloc (.cells ⟨List.replicate 64 (.int .u32 0)⟩ 474)).setRow g ⟨cur.take o++(vs++cur.drop (o+vs.length))⟩).cell? ((Addr.mk w.heap.size 0 none).add j)=some u)/\
    R (.returned (.agg ⟨v⟩)) ((w.alloc (.cells ⟨List.replicate 64 (.int .u32 0)⟩ 474)).setRow g ⟨cur.take o++(vs++cur.drop (o+vs.length))⟩):=by
 have hl:=h.len;refine⟨hl,h.one,w.heap.size,0,List.replicate 64 (.int .u32 0),474,rfl,Row.new _ _ _,by simp[hl],vs,hl,?_,hR _ (((Mod.refl _ _).alloc _).setRow (.inr (aV _)) _)⟩;intro j u hu;have hr:=(Row.new w 474 ⟨List.replicate 64 (.int .u32 0)⟩).setRow ⟨(List.replicate 64 (Value.int .u32 0)).take 0++(vs++(List.replicate 64 (Value.int .u32 0)).drop (0+vs.length))⟩ (by simp[hl]);refine hr.zx ?_;have hj:j<vs.length:=(iU.1 hu).1;simp[x_ hj,hu]
def aqV:aq Rv #[] w (λe w'=>(∃l,Ws 64 l/\e=.returned (.agg ⟨l⟩))/\Still w w'):=by apply amL;have h:Ws 64 aJ8:=⟨by kernel_rfl,by kernel_rfl⟩;unfold Zt;exact asD (w:=w) (R:=λe w'=>(∃l,Ws 64 l/\e=.returned (.agg ⟨l⟩))/\Still w w') h λw' hw=>⟨⟨_,h,rfl⟩,hw⟩
def ayf(n:Int):∃b:UInt8,u8.wrap n=(b.toNat:Int):=by refine⟨UInt8.ofNat (n%256).toNat,?_⟩;simp only[IntKind.wrap,IntKind.signed,IntKind.bits,UInt8.toNat_ofNat'];simp;omega
def ao2{n:Nat}(hn:n<1000000000000):aq Ra #[.int .i64 (n:Int)] w (λe w'=>(∃s:List UInt8,s.length=(119-n%64)%64+9/\e=.returned (.string (S s)))/\Still w w'):=by
 apply al_;have h1:Int.tmod (n:Int) 64=((n%64:Nat):Int):=by rw[PC (by omega)];omega
 have h2:i64.wrap (119-((n%64:Nat):Int))=((119-n%64:Nat):Int):=wI;have h3:Int.tmod ((119-n%64:Nat):Int) 64=(((119-n%64)%64:Nat):Int):=by rw[PC (by omega)];omega
 have h4:i64.wrap (1+(((119-n%64)%64:Nat):Int))=(((119-n%64)%64+1:Nat):Int):=wI;have h5:i64.wrap ((((119-n%64)%64+1:Nat):Int)+8)=(((119-n%64)%64+9:Nat):Int):=wI;unfold Y5;simp only[h1,h2,h3,h4,h5,b6];have hz:(119-n%64)%64<64:=DY _ (by decide);generalize(119-n%64)%64=Z at hz;have hmk:madeCells #[(.int .u8 0)] ((Z+9)*1)=⟨bc (List.replicate (Z+9) 0)⟩:=by
  apply jF;apply aIh;intro j
  by_cases hj:j<Z+9
  .simp[madeCells,bc,hj,Nat.mod_one]
  .simp[madeCells,bc,hj]
 rw[hmk];have ru:=Row.new w 5 ⟨bc (List.replicate (Z+9) 0)⟩;refine⟨by decide,by decide,by omega,by omega,by omega,by omega,by omega,by omega,ru.CW (k:=0) (by simp),?_⟩;refine⟨λx w1=>∃(i:Nat) (l:List UInt8),x=(i:Int)/\i<=8/\l.length=Z+9/\Row w1 w.heap.size 5 ⟨bc l⟩/\Still w w1,λx _=>(8-x).toNat,⟨0,(List.replicate (Z+9) 0).set 0 128,rfl,by omega,by simp,?_,((Mod.refl _ _).alloc _).setAt (k:=0) (.inr (aV _)) _⟩,?_⟩
 .rw[<-aeN]
  exact ru.setAt 0 _
 rintro _ _ w1 ⟨i,l,rfl,hi,hl,hr,hm⟩;have e1:i64.wrap ((i:Int)+1)=((i+1:Nat):Int):=wI;have e8:i64.wrap (8*(i:Int))=((8*i:Nat):Int):=wI;refine aA (λhx=>?_) (λhx=>⟨_,hr.bytes hl,⟨l,hl,rfl⟩,hm⟩);have hx:=aR hx;have ea:i64.wrap (((Z+9:Nat):Int)-1)=((Z+8:Nat):Int):=wI;have eb:i64.wrap (((Z+8:Nat):Int)-(i:Int))=((Z+8-i:Nat):Int):=wI;simp only[e1,e8,ea,eb,b6];obtain⟨b,hb⟩:=ayf (Int.fdiv (i64.wrap ((n:Int)*8)) (2^(min (8*i) i64.bits)));rw[hb];refine⟨by omega,by omega,by omega,hr.CW (by rw[GL,hl];omega),⟨i+1,l.set (Z+8-i) b,rfl,by omega,by rw[zY];exact hl,?_,hm.setAt (.inr (aV _)) _ _⟩,by omega⟩;rw[<-aeN];exact hr.setAt _ _
def ayg(x:Int):0<=bits .and .u32 x 15/\bits .and .u32 x 15<16:=by
 have h:bits .and .u32 x 15=u32.wrap ((BitVec.ofInt 32 x&&&15#32).toNat:Int):=rfl;have hlt:(BitVec.ofInt 32 x&&&15#32).toNat<16:=by rw[YP];exact Nat.lt_of_le_of_lt Nat.and_le_right (by decide)
 rw[h];generalize(BitVec.ofInt 32 x&&&15#32).toNat=m at hlt;simp only[IntKind.wrap,IntKind.signed,IntKind.bits];simp;omega
def Dig(w w1:World)(p:Option Addr)(L C n:Nat):Prop:=∃l:List UInt8,l.length<=n/\aS w1 w.heap.size 5 1 (.slice p L C) L (bc l)/\Still w w1
def aoc{s:List Value}(hs:Ws 8 s):aq Qd #[.agg ⟨s⟩] w (λe w'=>(∃t,e=.returned (.string (S t)))/\Still w w'):=by
 obtain⟨s0,s1,s2,s3,s4,s5,s6,s7,rfl⟩:=hs.eight;apply akD;have hr:=Row.new w 441 ⟨[.int .u32 s0,.int .u32 s1,.int .u32 s2,.int .u32 s3,.int .u32 s4,.int .u32 s5,.int .u32 s6,.int .u32 s7]⟩;refine⟨_,_,_,_,_,_,_,_,hr.dy rfl,hr.dy rfl,hr.dy rfl,hr.dy rfl,hr.dy rfl,hr.dy rfl,hr.dy rfl,hr.dy rfl,?_⟩;refine⟨λp L C x w1=>∃i:Nat,x=(i:Int)/\i<=8/\Dig w w1 p L C (8*i),λ_ _ _ x _=>(8-x).toNat,⟨0,rfl,by omega,[],by simp,aS.nil _ _ _ _,(Mod.refl _ _).alloc _⟩,?_⟩;rintro p L C _ _ w1 ⟨i,rfl,hi,hd⟩;refine aA (λhx=>?_) (λhx=>?_)
 .have hx:=aR hx
  obtain⟨x,hg⟩:=hs.get (k:=i) (by omega);refine⟨by omega,by omega,x,by rw[b6,aHp];exact hg,?_⟩;refine⟨λp L C k w1=>∃j:Nat,k=28-4*(j:Int)/\j<=8/\Dig w w1 p L C (8*i+j),λ_ _ _ k _=>(k+8).toNat,⟨0,rfl,by omega,hd⟩,?_⟩;rintro p1 L1 C1 _ _ w2 ⟨j,rfl,hj,l,hl,ho,hst⟩;refine aA (λhk=>?_) (λhk=>?_)
  .have hk:=aR hk
   have e4:i64.wrap (28-4*(j:Int)-4)=28-4*((j+1:Nat):Int):=wI;rw[e4];obtain⟨a0,a1⟩:=ayg (Int.fdiv x (2^(min (Int.toNat (28-4*(j:Int))) u32.bits)));have hL:=ho.length;rw[GL]at hL;obtain⟨b,hb⟩:∃b,([48,49,50,51,52,53,54,55,56,57,97,98,99,100,101,102]:List UInt8)[Int.toNat (bits .and .u32 (Int.fdiv x (2^(min (Int.toNat (28-4*(j:Int))) u32.bits))) 15)]?=some b:=⟨_,gW (by show _<16;omega)⟩;refine⟨hk,a0,b,hb,_,[.int .u8 (b.toNat:Int)],(ho.alloc _).AO,rfl,one_one rfl,avC _ _ _,by omega,by omega,?_⟩;intro p2 c2 w3 oS hg3 qq;refine⟨⟨j+1,rfl,by omega,l++[b],by simp;omega,?_,hst.rS ho (aV _) hg3⟩,by dsimp only;omega⟩;have:=ho.rS hst.size oS qq;rw[GM];exact this
  .have hk:=aX hk
   have e1:i64.wrap ((i:Int)+1)=((i+1:Nat):Int):=wI;rw[e1];exact⟨⟨i+1,rfl,by omega,l,by omega,ho,hst⟩,by dsimp only;omega⟩
 .obtain⟨l,_,ho,hst⟩:=hd
  exact⟨_,ho.bytes,⟨_,rfl⟩,hst⟩
abbrev AX(w:World)(t:TypeId)(a b c d e f g h:Int):World:=
 ((((((((w.alloc (.cells #[(.int .u32 0),(.int .u32 0),(.int .u32 0),(.int .u32 0),(.int .u32 0),(.int .u32 0),(.int .u32 0),(.int .u32 0)] t)).setCell (Addr.mk w.heap.size 0 none) (.int .u32 a)).setCell (Addr.mk w.heap.size 1 none) (.int .u32 b)).setCell (Addr.mk w.heap.size 2 none) (.int .u32 c)).setCell (Addr.mk w.heap.size 3 none) (.int .u32 d)).setCell (Addr.mk w.heap.size 4 none) (.int .u32 e)).setCell (Addr.mk w.heap.size 5 none) (.int .u32 f)).setCell (Addr.mk w.heap.size 6 none) (.int .u32 g)).setCell (Addr.mk w.heap.size 7 none) (.int .u32 h)
def acg(w:World)(t:TypeId)(a b c d e f g h:Int):Row (AX w t a b c d e f g h) w.heap.size t ⟨[.int .u32 a,.int .u32 b,.int .u32 c,.int .u32 d,.int .u32 e,.int .u32 f,.int .u32 g,.int .u32 h]⟩:=
 ((((((((Row.new w t ⟨List.replicate 8 (.int .u32 0)⟩).fW 0 (.int .u32 a)).fW 1 (.int .u32 b)).fW 2 (.int .u32 c)).fW 3 (.int .u32 d)).fW 4 (.int .u32 e)).fW 5 (.int .u32 f)).fW 6 (.int .u32 g)).fW 7 (.int .u32 h)
def adi(w:World)(t:TypeId)(a b c d e f g h:Int){Q:World->Prop}(hQ:Q (AX w t a b c d e f g h)):
  c7 (w.alloc (.cells #[(.int .u32 0),(.int .u32 0),(.int .u32 0),(.int .u32 0),(.int .u32 0),(.int .u32 0),(.int .u32 0),(.int .u32 0)] t)) λy0=>zJ y0 (zA w 0) (.int .u32 a) λy1=>zJ y1 (zA w 1) (.int .u32 b) λy2=>zJ y2 (zA w 2) (.int .u32 c) λy3=>zJ y3 (zA w 3) (.int .u32 d) λy4=>zJ y4 (zA w 4) (.int .u32 e) λy5=>zJ y5 (zA w 5) (.int .u32 f) λy6=>zJ y6 (zA w 6) (.int .u32 g) λy7=>zJ y7 (zA w 7) (.int .u32 h) Q:=by
 have h0:=Row.new w t ⟨List.replicate 8 (.int .u32 0)⟩;have h1:=h0.fW 0 (.int .u32 a);have h2:=h1.fW 1 (.int .u32 b);have h3:=h2.fW 2 (.int .u32 c);have h4:=h3.fW 3 (.int .u32 d);have h5:=h4.fW 4 (.int .u32 e);have h6:=h5.fW 5 (.int .u32 f);have h7:=h6.fW 6 (.int .u32 g);unfold c7;exact⟨h0.wr 0 (by simp),h1.wr 1 (by simp),h2.wr 2 (by simp),h3.wr 3 (by simp),h4.wr 4 (by simp),h5.wr 5 (by simp),h6.wr 6 (by simp),h7.wr 7 (by simp),hQ⟩
def ach{a0:World}{S:Nat->Prop}(hm:Mod S a0 w)(t:TypeId)(a b c d e f g h:Int):Mod S a0 (AX w t a b c d e f g h):=by have hs:=hm.size;exact((((((((hm.alloc _).setCell (.inr hs) _).setCell (.inr hs) _).setCell (.inr hs) _).setCell (.inr hs) _).setCell (.inr hs) _).setCell (.inr hs) _).setCell (.inr hs) _).setCell (.inr hs) _
structure Bz(w w1:World)(p q k:Nat)(t:TypeId)(s0 s c:List Value):Prop where
 old:Row w1 p t ⟨s0⟩
 new:Row w1 q 441 ⟨s⟩
 NN:Row w1 k 474 ⟨c⟩
 still:Still w w1
def Bz.drew{w w1:World}{p q k:Nat}{t:TypeId}{s0 s c:List Value}(h:Bz w w1 p q k t s0 s c):Bz w w1.drew p q k t s0 s c:=⟨h.old.drew,h.new.drew,h.NN.drew,h.still.drew⟩
set_option maxHeartbeats 1000000 in
def G8{p:Nat}{t:TypeId}{s:List Value}(hs:Ws 8 s)(hp:Row w p t ⟨s⟩)(b:List UInt8)(hb:b.length=64):
  aq QN #[.pointer (some ⟨p,0,none⟩),.string (S b)] w
   (λe w'=>e=.returned (.tuple #[])/\Mod (λi=>i=p) w w'/\∃s',Ws 8 s'/\Row w' p t ⟨s'⟩):=by
 apply alA;refine aqV.mono ?_;rintro _ w1 ⟨⟨c,hc,rfl⟩,bW⟩;have hp1:=hp.mod bW (λh=>h);have hkl:=hc.len;refine .inl ⟨c,hkl,rfl,hkl,hc.one,w1.heap.size,0,List.replicate 64 (.int .u32 0),474,rfl,Row.new _ _ _,by rw[hkl];simp,?_⟩;have hek:(List.replicate 64 (Value.int .u32 0)).take 0++(c++(List.replicate 64 (Value.int .u32 0)).drop (0+c.length))=c:=by rw[hkl];simp
 rw[hek];have hk2:=(Row.new w1 474 ⟨List.replicate 64 (.int .u32 0)⟩).setRow ⟨c⟩ (by simp[hkl]);have hp2:=(hp1.alloc (.cells ⟨List.replicate 64 (.int .u32 0)⟩ 474)).Sk (g':=w1.heap.size) (Gm hp1.lt) ⟨c⟩;have hm2:Still w ((w1.alloc (.cells ⟨List.replicate 64 (.int .u32 0)⟩ 474)).setRow w1.heap.size ⟨c⟩):=(bW.alloc _).setRow (.inr bW.size) _;have hkp:w1.heap.size≠p:=Rz hp1.lt;have azn:=bW.size;generalize w1.heap.size=k at hk2 hp2 hm2 hkp azn⊢;generalize(w1.alloc (.cells ⟨List.replicate 64 (.int .u32 0)⟩ 474)).setRow k ⟨c⟩=w2 at hk2 hp2 hm2⊢;obtain⟨s0,s1,s2,s3,s4,s5,s6,s7,he⟩:=hs.eight;have ry:=hp2;rw[he]at ry;refine⟨_,_,_,_,_,_,_,_,ry.dy rfl,ry.zx rfl,ry.zx rfl,ry.zx rfl,ry.zx rfl,ry.zx rfl,ry.zx rfl,ry.zx rfl,?_⟩;clear ry he;refine adi w2 441 s0 s1 s2 s3 s4 s5 s6 s7 ?_;have hr3:Bz w (AX w2 441 s0 s1 s2 s3 s4 s5 s6 s7) p w2.heap.size k t s [.int .u32 s0,.int .u32 s1,.int .u32 s2,.int .u32 s3,.int .u32 s4,.int .u32 s5,.int .u32 s6,.int .u32 s7] c:=by
  have xK:=Gm hp2.lt;have hkn:=Gm hk2.lt;exact⟨((((((((hp2.alloc _).far xK _).far xK _).far xK _).far xK _).far xK _).far xK _).far xK _).far xK _,acg w2 441 s0 s1 s2 s3 s4 s5 s6 s7,
   ((((((((hk2.alloc _).far hkn _).far hkn _).far hkn _).far hkn _).far hkn _).far hkn _).far hkn _).far hkn _,ach hm2 441 s0 s1 s2 s3 s4 s5 s6 s7⟩
 have Jo:w2.heap.size≠p:=Rz hp2.lt;have OC:w2.heap.size≠k:=Rz hk2.lt;have hq:=hm2.size;change Calls _ _ _ (AX w2 441 s0 s1 s2 s3 s4 s5 s6 s7) _;generalize AX w2 441 s0 s1 s2 s3 s4 s5 s6 s7=w3 at hr3⊢;generalize w2.heap.size=q at hr3 Jo OC hq⊢;refine(aqU b hb).mono ?_;rintro _ w4 ⟨⟨W,hW,rfl⟩,eZ⟩;refine .inl ⟨W,hW.len,rfl,?_⟩;refine⟨λx w5=>∃(i:Nat) (x8:List Value),x=(i:Int)/\i<=64/\Ws 8 x8/\Bz w w5 p q k t s x8 c,λx _=>(64-x).toNat,⟨0,_,rfl,by omega,⟨rfl,rfl⟩,hr3.old.mod eZ (λh=>h),hr3.new.mod eZ (λh=>h),hr3.NN.mod eZ (λh=>h),Mod.trans hr3.still eZ (λ_ h=>h) (λ_ _ h=>h)⟩,?_⟩;rintro _ _ w5 ⟨i,x8,rfl,hi,OD,hr⟩;have e1:i64.wrap ((i:Int)+1)=((i+1:Nat):Int):=wI;refine aA (λhx=>?_) (λhx=>?_)
 .have hx:=aR hx
  have hx':i<64:=by omega
  obtain⟨y,hy⟩:=hW.get hx';obtain⟨z,hz⟩:=hc.get hx';obtain⟨t0,t1,t2,t3,t4,t5,t6,t7,rfl⟩:=OD.eight;simp only[e1,b6];have h1:=hr.drew.drew;have h2:=h1.drew;have hrd:=h2.drew;refine⟨by omega,by omega,_,by rw[aHp];exact hy,by decide,by decide,_,hr.new.at (k:=4) rfl,by decide,by decide,_,hr.new.at (k:=0) rfl,
   λwq=>Bz w wq p q k t s _ c,h1,by decide,by decide,_,λwq hq=>hq.new.at (k:=7) rfl,by decide,by decide,_,λwq hq=>hq.new.at (k:=6) rfl,by decide,by decide,_,λwq hq=>hq.new.at (k:=5) rfl,
   by decide,by decide,_,λwq hq=>hq.new.at (k:=6) rfl,by omega,by omega,_,λwq hq=>hq.NN.at hz,?_⟩
  refine(wK _ 6 (by decide) (by decide)).mono ?_;rintro _ _ ⟨⟨y1,rfl⟩,rfl⟩;refine .inl ⟨_,rfl,h1,(wK _ 11 (by decide) (by decide)).mono ?_⟩;rintro _ _ ⟨⟨y2,rfl⟩,rfl⟩;refine .inl ⟨_,rfl,h1,(wK _ 25 (by decide) (by decide)).mono ?_⟩;rintro _ _ ⟨⟨y3,rfl⟩,rfl⟩;refine .inl ⟨_,rfl,h1,λwq=>Bz w wq p q k t s _ c,h2,by decide,by decide,_,λwq hq=>hq.new.at (k:=1) rfl,by decide,by decide,_,λwq hq=>hq.new.at (k:=2) rfl,by decide,by decide,_,λwq hq=>hq.new.at (k:=1) rfl,?_⟩;refine(wK _ 2 (by decide) (by decide)).mono ?_;rintro _ _ ⟨⟨y4,rfl⟩,rfl⟩;refine .inl ⟨_,rfl,h2,(wK _ 13 (by decide) (by decide)).mono ?_⟩;rintro _ _ ⟨⟨y5,rfl⟩,rfl⟩;refine .inl ⟨_,rfl,h2,(wK _ 22 (by decide) (by decide)).mono ?_⟩;rintro _ _ ⟨⟨y6,rfl⟩,rfl⟩;refine .inl ⟨_,rfl,h2,λwq=>Bz w wq p q k t s _ c,hrd,by decide,by decide,by decide,by decide,[.int .u32 t0,.int .u32 t1,.int .u32 t2,.int .u32 t3,.int .u32 t4,.int .u32 t5,.int .u32 t6],by simp[Value.oneCell'],⟨rfl,λ_=>⟨_,rfl,?_⟩⟩,.inr ⟨q,1,_,441,?_,hrd.new,aV 8,?_⟩⟩
  .intro j u hu
   have hj:j<7:=(iU.1 hu).1;refine hrd.new.zx ?_;rw[<-hu]
   match j,hj with
   |0,_=>rfl
   |1,_=>rfl
   |2,_=>rfl
   |3,_=>rfl
   |4,_=>rfl
   |5,_=>rfl
   |6,_=>rfl
  .rw[aG (by decide)]
   rfl
  .have hn:=hrd.new.setRow ⟨[.int .u32 t0,.int .u32 t0,.int .u32 t1,.int .u32 t2,.int .u32 t3,.int .u32 t4,.int .u32 t5,.int .u32 t6]⟩ rfl
   have hw:Ws 8 [.int .u32 t0,.int .u32 t0,.int .u32 t1,.int .u32 t2,.int .u32 t3,.int .u32 t4,.int .u32 t5,.int .u32 t6]:=⟨rfl,rfl⟩;refine⟨by decide,by decide,_,hn.at (k:=4) rfl,?_⟩;exact⟨by decide,by decide,hn.CW (k:=4) (show 4<8 by decide),by decide,by decide,(hn.setAt 4 _).CW (k:=0) (show 0<8 by decide),⟨i+1,_,rfl,by omega,(hw.set 4 _).set 0 _,((hrd.old.Sk Jo.symm _).Ip Jo.symm 4 _).Ip Jo.symm 0 _,(hn.setAt 4 _).setAt 0 _,
    ((hrd.NN.Sk OC.symm _).Ip OC.symm 4 _).Ip OC.symm 0 _,((hrd.still.setRow (.inr hq) _).setAt (.inr hq) 4 _).setAt (.inr hq) 0 _⟩,by omega⟩
 .refine⟨λv w6=>∃(j:Nat) (s':List Value),v=(j:Int)/\j<=8/\Ws 8 s'/\Row w6 p t ⟨s'⟩/\Row w6 q 441 ⟨x8⟩/\Mod (λi=>i=p) w w6,λv _=>(8-v).toNat,
   ⟨0,s,rfl,by omega,hs,hr.old,hr.new,hr.still.weaken (λ_ h=>h.elim)⟩,?_⟩
  rintro _ _ w6 ⟨j,s',rfl,hj,hs',ho,hn,hm⟩;have e1:i64.wrap ((j:Int)+1)=((j+1:Nat):Int):=wI;refine aA (λhx=>?_) (λhx=>⟨rfl,hm,s',hs',ho⟩);have hx:=aR hx;obtain⟨y,hy⟩:=hs'.get (k:=j) (by omega);obtain⟨z,hz⟩:=OD.get (k:=j) (by omega);simp only[e1,b6];exact⟨λwq=>Row wq p t ⟨s'⟩/\Row wq q 441 ⟨x8⟩,⟨ho.drew,hn.drew⟩,by omega,by omega,_,λwq hq=>hq.1.at hy,by omega,by omega,_,λwq hq=>hq.2.at hz,by omega,by omega,
   ho.drew.CW (by rw[hs'.len];omega),⟨j+1,_,rfl,by omega,hs'.set j _,ho.drew.setAt _ _,hn.drew.Ip Jo _ _,hm.drew.setAt (.inl rfl) _ _⟩,by omega⟩
def auF(s:List UInt8)(hs:s.length<1000000):aq RT #[.string (S s)] w (λe w'=>(∃t,e=.returned (.string (S t)))/\Still w w'):=by
 apply anr;refine adi w 441 _ _ _ _ _ _ _ _ ?_;change Calls _ _ _ (AX w 441 _ _ _ _ _ _ _ _) _;have ru:=acg w 441 1779033703 3144134277 1013904242 2773480762 1359893119 2600822924 528734635 1541459225;have hm0:=ach (Mod.refl (λ_=>False) w) 441 1779033703 3144134277 1013904242 2773480762 1359893119 2600822924 528734635 1541459225;generalize AX w 441 1779033703 3144134277 1013904242 2773480762 1359893119 2600822924 528734635 1541459225=w0 at ru hm0⊢;refine(ao2 (by omega)).mono ?_;rintro _ w1 ⟨⟨d,hd,rfl⟩,bW⟩;refine .inl ⟨_,rfl,by omega,?_⟩;have hb:∃N,(s++d).length=N*64:=⟨(s++d).length/64,by rw[cB];omega⟩;obtain⟨N,hb⟩:=hb;refine⟨λt w2=>∃(n:Nat) (st:List Value),t.length=n*64/\Ws 8 st/\Row w2 w.heap.size 441 ⟨st⟩/\Still w w2,λt _=>t.length,⟨N,_,hb,⟨rfl,rfl⟩,ru.mod bW (λh=>h),Mod.trans hm0 bW (λ_ h=>h) (λ_ _ h=>h)⟩,?_⟩;rintro t _ w2 ⟨n,st,hn,hw,hr,hm⟩;refine aA (λhx=>?_) (λhx=>?_)
 .have hx:t≠[]:=by simpa using hx
  have hl:0<t.length:=mK.2 hx;have e64:Int.toNat 64=64:=rfl;rw[e64];refine⟨by decide,by omega,(G8 hw hr (t.take 64) (by simp;omega)).mono ?_⟩;rintro _ w3 ⟨rfl,cV,s',hs',hr3⟩;have hdl:(t.drop 64).length=(n-1)*64:=by rw[ig];omega
  exact .inl ⟨rfl,by decide,by omega,⟨n-1,s',hdl,hs',hr3,Mod.trans hm cV (λ_ h=>h) (λi hi h=>by omega)⟩,by show(t.drop 64).length<t.length;omega⟩
 .obtain⟨s0,s1,s2,s3,s4,s5,s6,s7,rfl⟩:=hw.eight
  refine⟨_,_,_,_,_,_,_,_,hr.dy rfl,hr.dy rfl,hr.dy rfl,hr.dy rfl,hr.dy rfl,hr.dy rfl,hr.dy rfl,hr.dy rfl,(aoc hw).mono ?_⟩;rintro _ w3 ⟨⟨y,rfl⟩,cV⟩;exact .inl ⟨_,rfl,⟨_,rfl⟩,Mod.trans hm cV (λ_ h=>h) (λ_ _ h=>h)⟩
end Go.Proofs.YtihaaoehhgmphaaGreatDoor
namespace Go.Proofs.YtihaaoehhgmphaaGreatDoor.L
open IntKind
def aJz{α:Type}(f:Pr α):Prop:=∀s x,f s=.ok x->x.2<:+s
def NO{σ α:Type}(step:σ->Ts->Rs ((σ×Ts)⊕(α×Ts))):Prop:=∀a s x,step a s=.ok x->match x with
 |.inl y=>y.2<:+s
 |.inr y=>y.2<:+s
def adj{σ α:Type}{step:σ->Ts->Rs ((σ×Ts)⊕(α×Ts))}(hs:NO step):∀(n:Nat) (a:σ) (s:Ts) (x:α×Ts),many step n a s=.ok x->x.2<:+s
 |0,_,_,_,h=>by cases h
 |n+1,a,s,x,h=>by
  simp only[many]at h;obtain⟨y,h1,h⟩:=Rs.iJ h;have h3:=hs _ _ _ h1;cases y with
  |inr y=>injection h with h;subst h;exact h3
  |inl y=>exact(adj hs n _ _ _ h).trans h3
def aci{σ α:Type}{step:σ->Ts->Rs ((σ×Ts)⊕(α×Ts))}(hs:NO step)(a:σ):aJz (aIz step a):=λs x h=>adj hs _ a s x h
def D2:∀s:Ts,jK s<:+s
 |[]=>yd _
 |x::r=>by
  simp only[jK];split
  .exact(D2 r).trans (ue _ _)
  .exact yd _
def L3(s:Ts):s.tail<:+s:=List.tail_suffix s
def aeo(c:Bool)(s:Ts):(if c=true then s.tail else s)<:+s:=by
 split
 .exact L3 s
 .exact yd _
def aa5:aJz pn:=by
 intro s x h
 match s with
 |[]=>cases h
 |(k,t)::r=>
  simp only[pn]at h;split at h
  .obtain⟨l,_,h⟩:=Rs.iJ h
   injection h with h;subst h;exact ue _ _
  .cases h
def aa6:aJz u_:=by
 intro s x h
 match s with
 |[]=>cases h
 |(k,t)::r=>simp only[u_]at h;obtain⟨l,h1,h⟩:=Rs.iJ h;injection h with h;subst h;exact(aa5 _ _ h1).trans (ue _ _)
def aap:NO kY:=by
 intro a s x h;unfold kY at h;split at h
 .obtain⟨l,h1,h⟩:=Rs.iJ h
  injection h with h;subst h;exact aa6 _ _ h1
 .split at h
  .split at h
   .split at h<;>(obtain⟨l,h1,h⟩:=Rs.iJ h;injection h with h;subst h;exact ue _ _)
   .split at h
    .cases h
    .injection h with h
     subst h;exact yd _
  .split at h
   .cases h
   .injection h with h
    subst h;exact yd _
def apI:aJz ki:=aci aap _
def asE{cmd:Pr Nd}(hc:aJz cmd)(neg:Bool):NO (aIk cmd neg):=by
 intro a s x h;unfold aIk at h;split at h
 .obtain⟨l,h1,h⟩:=Rs.iJ h
  injection h with h;subst h;exact(hc _ _ h1).trans ((D2 _).trans (L3 s))
 .injection h with h
  subst h;exact yd _
def acj{cmd:Pr Nd}(hc:aJz cmd):aJz (CL cmd):=by intro s x h;obtain⟨y,h1,h⟩:=Rs.iJ h;exact(aci (asE hc _) _ _ _ h).trans ((hc _ _ h1).trans (aeo _ s))
def auG{cmd:Pr Nd}(hc:aJz cmd):aJz (Bb cmd):=acj hc
def Ua(L:Nat):aJz (kF L).1/\True:=⟨apI,trivial⟩
def TB(s:Ts):Prop:=s.length<=20000/\∀x∈s,x.2.length<1000000/\x.2≠[]/\x.1<1000/\x∉CM/\123∉x.2
def TB.aJy{s r:Ts}(h:TB s)(hr:r<:+s):TB r:=⟨kJ hr.length_le h.1,λx hx=>h.2 x (hr.subset hx)⟩
def TB.head{k:Nat}{t:ag}{r:Ts}(h:TB ((k,t)::r)):t.length<1000000/\t≠[]:=⟨(h.2 (k,t) (by simp)).1,(h.2 (k,t) (by simp)).2.1⟩
def TB.kind{k:Nat}{t:ag}{r:Ts}(h:TB ((k,t)::r)):k<1000:=(h.2 (k,t) (by simp)).2.2.1
def TB.af2{k:Nat}{t:ag}{r:Ts}(h:TB ((k,t)::r)):123∉t:=(h.2 (k,t) (by simp)).2.2.2.2
def TB.tail{x:Nat×ag}{r:Ts}(h:TB (x::r)):TB r:=h.aJy (ue _ _)
def TB.NP{s:Ts}(h:TB s){k:Nat}{t:ag}(ht:(k,t)∈CM):aHA k t s=false:=by
 cases hx:aHA k t s with
 |false=>rfl
 |true=>rw[L2 hx]at h;exact absurd ht (h.2 _ (by simp)).2.2.2.1
end Go.Proofs.YtihaaoehhgmphaaGreatDoor.L
namespace Go.Proofs.YtihaaoehhgmphaaGreatDoor.L
open IntKind Go.RowKit Vc
def apJ(p q:Addr)(w:World):
  CallsD aM 123 #[.pointer (some p),.pointer (some q)] .returning w λe u' w'=>e=.returned (.tuple #[])/\u'=.returning/\w'=w:=by
 refine callsD_of_wpS Tryz.func123 rfl λc₀ cs hu=>?_;apply wpS_seq;apply wpS_region;simp[wpOpsS,go_sem,recoverD,hu,Tryz.ntmps123,Exit.thenS];apply wpS_seq;apply wpS_region;simp[wpOpsS,go_sem,Tryz.ntmps123,Exit.thenS];refine wpS_cond (t:=false) (by simp[Act.eval,Array.replicate]) ?_;simp only[kV,iV];refine wpS_of_wp (wp_skip ?_);cases c₀;simp_all [bodyPostS,results,Tryz.results123]
def aou(p q:Addr)(n:Int)(w:World)(hp:Wr w p)(hq:Wr (w.drew.setCell p (.slice none 0 0)) q):
  CallsD aM 123 #[.pointer (some p),.pointer (some q)] (.panicking [{v:=.iface 28 (.int .i64 n),recovered:=false}]) w λe u' w'=>e=.returned (.tuple #[])/\settle u'=.returning/\w'=(w.drew.setCell p (.slice none 0 0)).setCell q (.int .i64 n):=by
 refine callsD_of_wpS Tryz.func123 rfl λc₀ cs hu=>?_;apply wpS_seq;apply wpS_region;simp[wpOpsS,go_sem,recoverD,hu,Tryz.ntmps123,Exit.thenS];apply wpS_seq;apply wpS_region;simp[wpOpsS,go_sem,Tryz.ntmps123,Exit.thenS];refine wpS_cond (t:=true) (by simp[Act.eval,Array.replicate]) ?_;simp only[nu];refine wpS_of_wp ?_;have et:(#[Value.pointer (some p),Value.pointer (some q)]++((((Array.replicate 6 undef).setIfInBounds 1 (Value.iface 28 (Value.int i64 n))).setIfInBounds 0 (Value.iface 28 (Value.int i64 n))).setIfInBounds 2 (Value.iface 28 (Value.int i64 n))).setIfInBounds 3 (Value.bool true))=
   ⟨[.pointer (some p),.pointer (some q),.iface 28 (.int .i64 n),.iface 28 (.int .i64 n),.iface 28 (.int .i64 n),.bool true,undef,undef]⟩:=by rfl
 rw[et];refine D0 (P:=aM) (m:=.held) (ds:=[]) (l:=[.pointer (some p),.pointer (some q),.iface 28 (.int .i64 n),.iface 28 (.int .i64 n),.iface 28 (.int .i64 n),.bool true,undef,undef]) (K:=λl' w'=>w'=(w.drew.setCell p (.slice none 0 0)).setCell q (.int .i64 n)) (E:=λ_ _=>False) (Eq.mp (α:=∃Sw:World->Prop,Sw w.drew/\(Wr w.drew p/\Wr (w.drew.setCell p (.slice none 0 0)) q/\(w.drew.setCell p (.slice none 0 0)).setCell q (.int .i64 n)=(w.drew.setCell p (.slice none 0 0)).setCell q (.int .i64 n))/\(Wr w.drew p/\Wr (w.drew.setCell p (.slice none 0 0)) q/\(w.drew.setCell p (.slice none 0 0)).setCell q (.int .i64 n)=(w.drew.setCell p (.slice none 0 0)).setCell q (.int .i64 n))) (by kernel_rfl) ⟨λ_=>True,trivial,⟨hp,hq,rfl⟩,hp,hq,rfl⟩) ?_ ?_
 .rintro l' w' _ rfl
  cases c₀;simp_all [bodyPostS,results,Tryz.results123,act,settle];rfl
 .intro l' c w' _ h
  exact h.elim
end Go.Proofs.YtihaaoehhgmphaaGreatDoor.L
