/- Texts of one proof, one behind the other. Conditions: as each theorem names them. -/
import Derived.Test.YtihaaoehhgmphaaGreatDoorQ4
import Derived.Maps.Keyed
import Derived.DeepKeys3
import Derived.Lib.ItoaLen
import Derived.Shelf.Strings.Builder1
import Derived.Shelf.Strings.Builder2
import Derived.Shelf.Strings.OnBuilder
import Derived.Shelf.Strings.Trim
import Derived.Shelf.Small.Utf8
import Derived.Shelf.Small.Bits
import Derived.Shelf.Small.Strs
import Derived.Shelf.Small.Wraps
import Derived.Shelf.Strings.BuilderF
import Derived.Shelf.Strings.BuilderK
import Derived.Shelf.Utf8.RuneCount
import Derived.Shelf.Strconv.Atoi
import Derived.Shelf.Strconv.Itoa0
import Derived.Shelf.Strconv.Itoa1
import Derived.Shelf.LaysM
import Derived.Shelf.Strconv.Itoa2
import Derived.Shelf.Strconv.Itoa3
import Derived.Shelf.Strconv.AtoiErrFast
import Derived.Shelf.Strconv.ParseIntEmpty
import Derived.Shelf.Strconv.AtoiFail
import Derived.Shelf.Strconv.Clone
import Derived.Shelf.Strconv.SyntaxError
import Derived.Shelf.LaysC
import Derived.Shelf.Strconv.ToError
import Derived.Shelf.Strconv.AtoiErr
import Derived.Shelf.Strconv.ErrVar
import Derived.Shelf.Strconv.Lower
import Derived.Shelf.Strconv.ParseUint10
import Derived.Shelf.Strconv.ParseUint10Empty
import Derived.Shelf.Strconv.ParseUint10Any
import Derived.Shelf.Strconv.ParseInt10
import Derived.Shelf.Strconv.AtoiLong
import Derived.Shelf.Strconv.AtoiInnerAll
import Derived.Shelf.Strconv.RangeError
import Derived.Shelf.Strconv.ToErrorRange
import Derived.Shelf.Strconv.AtoiAll
import Derived.Shelf.Strconv.ErrVarAll
import Derived.Shelf.Strconv.ParseUintEmpty
import Derived.Shelf.Strconv.ParseUint10b64
import Derived.Shelf.Strconv.ParseUint10b32
import Derived.Shelf.Strconv.ParseUint10b16
import Derived.Shelf.Strconv.ParseUint10b8
import Derived.Shelf.Strconv.ParseUint10At
import Derived.Shelf.Strconv.ParseInt10At64
import Derived.Shelf.Strconv.ParseInt10At32
import Derived.Shelf.Strconv.ParseInt10At16
import Derived.Shelf.Strconv.ParseInt10At8
import Derived.Shelf.Strconv.ParseInt10All
import Derived.Shelf.Strconv.ParseIntPublic10
import Derived.Shelf.Strconv.ErrVarParseInt
import Derived.Shelf.Strings.Search1
import Derived.Shelf.Strings.Search2
import Derived.Shelf.Strings.Search3
import Derived.Shelf.Strings.Cut
import Derived.Shelf.Strings.Count
import Derived.Shelf.Strings.Shaped
import Derived.Shelf.Sort.Plain
import Derived.Shelf.Strings.LastIndex
import Derived.Shelf.Strings.Prefix
import Derived.Shelf.Strings.Split
import Derived.Shelf.Strings.Replace
import Derived.Shelf.Strings.SplitShaped
import Derived.Shelf.Unicode.Decode
import Derived.Shelf.Strings.Runes
import Derived.Shelf.Strings.RuneCount
import Derived.Shelf.Strings.AsciiSet
import Derived.Shelf.Strings.Explode
import Derived.Shelf.Unicode.DecodeSlow
import Derived.Shelf.Unicode.DecodeAny
import Derived.Shelf.Unicode.DecodeLast
import Derived.Shelf.Slices.Turned
import Derived.Shelf.Slices.Equal
import Derived.Ground.Names2Prog
import Derived.Shelf.Slices.ReverseS
import Derived.Shelf.Slices.Clone
import Derived.Shelf.Slices.CompactS
import Derived.Shelf.Slices.SearchI
import Derived.Shelf.Slices.Cells
import Derived.Shelf.Slices.In.SortNone
import Derived.Shelf.Slices.Empties2
import Derived.Ground.PaProg
import Derived.Shelf.Path.Small
import Derived.Test.YtihaaoehhgmphaaGreatDoorProg
import Derived.Lib.LaidTab
import Derived.Sort.OwnSorted
import Derived.Laws.RangeString
import Derived.Shelf.Strings.SlTrimAscii
set_option linter.all false
def Go.Proofs.aZ{α:Type}{x:Option α}{a b:α}(h:x=some a)(e:a=b:=by kernel_rfl):x=some b:=h.trans (congrArg some e)
namespace Go.Proofs.YtihaaoehhgmphaaGreatDoor.L
open IntKind Go.RowKit Vc
def aJG(n:Nat)(b:Nat->Bool):Array Bool:=⟨(List.range n).map b⟩
abbrev eF(b:Nat->Bool)(i:Nat):Nat->Bool:=λj=>if j=i then true else b j
def GR{n:Nat}{b:Nat->Bool}{j:Nat}{d:Bool}(h:j<n):(aJG n b).getD j d=b j:=by simp[aJG,J3,h]
def auH{n i:Nat}{b:Nat->Bool}:(aJG n b).setIfInBounds i true=aJG n (eF b i):=by
 apply jF;simp only[aJG,aKW];apply aIh;intro j;rw[DN];simp only[lG,List.length_range,aJl,eF]
 by_cases hj:i=j
 .subst hj
  simp only[↓reduceIte]
  by_cases hi:i<n
  .simp[hi]
  .simp[hi]
 .rw[aG hj]
  by_cases hi:j<n
  .simp[hi,yq hj]
  .simp[hi]
def cnt(b:Nat->Bool):Nat->Nat
 |0=>0
 |n+1=>cnt b n+(!b n).toNat
def aep{b:Nat->Bool}{i:Nat}(hb:b i=false):∀n,i<n->cnt b n=cnt (eF b i) n+1
 |0,h=>by omega
 |n+1,h=>by
  have off:∀m,m<=i->cnt (eF b i) m=cnt b m:=by
   intro m
   induction m with
   |zero=>intro _;rfl
   |succ m ih=>intro hm;have e:eF b i m=b m:=aG (show¬m=i by omega);simp only[cnt,ih (by omega),e]
  simp only[cnt]
  by_cases hn:n=i
  .subst hn
   have e:eF b n n=true:=aL rfl;rw[off n (aV _),hb,e];rfl
  .rw[aep hb n (by omega)]
   have e:eF b i n=b n:=aG hn;rw[e];omega
def adk{b:Nat->Bool}:∀n,cnt b n=0->∀j,j<n->b j=true
 |0,_,_,h=>by omega
 |n+1,h,j,hj=>by
  simp only[cnt]at h;have hn:b n=true:=by
   cases hb:b n with
   |true=>rfl
   |false=>rw[hb]at h;simp at h
  rcases Nat.lt_succ_iff_lt_or_eq.1 hj with hj|hj
  .exact adk n (by omega) j hj
  .subst hj
   exact hn
def ack:∀n,cnt (λ_=>false) n=n
 |0=>rfl
 |n+1=>by simp[cnt,ack n]
def aqW{P:Program}{ops:Array Oper}{Q:Exit->Act->World->Prop}{n:Nat}(hn:ops.size=n)(I:(Nat->Bool)->Act->World->Prop)
  (hend:∀b a w,I b a w->(∀j,j<n->b j=true)->Q .normal a w)(agT:∀(i:Nat) o,ops[i]?=some o->∀e∈o.after,Region.binds .any e=true->e.on<i)
  (hstep:∀b a w (i:Nat) o,I b a w->ops[i]?=some o->b i=false->(∀e∈o.after,Region.binds .any e=true->b e.on=true)->wpOp P ops Q i (λa' w'=>I (eF b i) a' w') a w):
  ∀fuel b a w,cnt b n=fuel->I b a w->wpAny P .any ops Q fuel (aJG n b) a w:=by
 have all:∀b,Region.ready .any ops (aJG n b)=[]->∀j,j<n->b j=true:=by
  intro b hr j
  induction j using Nat.strongRecOn with
  |_ j ih=>
   intro hj;cases hb:b j with
   |true=>rfl
   |false=>
    exfalso;have ho:ops[j]?=some ops[j]:=by simp[hn,hj]
    have:j∈Region.ready .any ops (aJG n b):=mem_ready.2 ⟨by rw[GR hj,hb],_,ho,λe he OE=>by have h1:=agT j _ ho e he OE;rw[GR (by omega)];exact ih _ h1 (by omega)⟩;rw[hr]at this;cases this
 intro fuel
 induction fuel with
 |zero=>
  intro b a w hc hI;have hall:=adk n hc;refine⟨?_,hend b a w hI hall⟩;refine List.eq_nil_iff_forall_not_mem.2 λj hj=>?_;obtain⟨h1,o,ho,_⟩:=mem_ready.1 hj;have hj':j<n:=by rw[<-hn];exact(aH0.1 ho).1
  rw[GR hj',hall j hj']at h1;cases h1
 |succ fuel ih=>
  intro b a w hc hI;refine⟨λhr=>hend b a w hI (all b hr),λi hi=>?_⟩;obtain⟨h1,o,ho,h2⟩:=mem_ready.1 hi;have hi':i<n:=by rw[<-hn];exact(aH0.1 ho).1
  rw[GR hi']at h1;rw[auH];refine wpOp_mono (λa' w' h=>ih _ a' w' ?_ h) (hstep b a w i o hI ho h1 λe he OE=>?_)
  .have:=aep h1 n hi'
   omega
  .have h3:=h2 e he OE
   have:=agT i o ho e he OE;rwa[GR (by omega)]at h3
def G9{P:Program}{ops:Array Oper}{Q:Exit->Act->World->Prop}{i:Nat}{o:Oper}{next:Act->World->Prop}{l:Fr}{ds:List Deferred}{w:World}(ho:ops[i]?=some o)(hg:o.guard=none)
  (h:aIG P l o w (λv w'=>next (act (put l o.dst v) ds) w') (λ_ _=>False)):wpOp P ops Q i next (act l ds) w:=by
 unfold wpOp;simp only[ho];rw[aL (by simp[Region.wanted,hg])];exact .inl (LM h (λv w' hk=>by rw[wV];exact hk) (λc w' he=>he.elim))
def Mm{l:Fr}{t:Nat}{v:Value}{K:Value->Prop}(h:l[t]?=some v)(hk:K v):tw l t K:=by
 induction l generalizing t with
 |nil=>cases h
 |cons x l ih=>cases t with
  |zero=>obtain rfl:=bU h;exact hk
  |succ t=>exact ih h
def AY(w:World)(g:Nat)(es:List (Value×Value)):Prop:=∃ms c,w.heap[g]?=some (.map ms c)/\(ms.toList.map λe=>(e.key,e.val)).Perm es
def aqX{P:Program}{T tk te:TypeId}(hT:P.underlying T=some (.map tk te))(KL:WideMaps.KeyLaw P tk){w:World}{g:Nat}{ms:Array MapEntry}{c:Nat}{key x:Value}{lk:Lit}(hg:w.heap[g]?=some (.map ms c))(hkey:keyOf P tk key=some lk)
  (hall:∀e∈ms.toList,∃l,keyOf P tk e.key=some l)(hne:∀e∈ms.toList,e.key≠key):(Instr.mapUpdate T (.map (some g)) key x).run P w=.ok () (ChangeMaps.setBlock w g (.map (ms.push ⟨key,x,c⟩) (c+1))):=by
 have KL:=Maps.Keyed.of_law KL;rcases KL.find w hkey ms.toList hall with⟨h1,_⟩|⟨j,e0,_,h2,h3⟩
 .simp[Instr.mapUpdate,run_underlying hT,MapKept.run_getObj_map hg,KL.check w false hkey,h1,MapKept.run_setObj_map _ hg,Result.andThen,ChangeMaps.setBlock]
 .exact absurd h3 (hne e0 (aJk h2))
def ao3(w:World)(g:Nat)(o:Obj):Mod (λk=>k=g) w (ChangeMaps.setBlock w g o):=
 ⟨rfl,rfl,rfl,by simp[ChangeMaps.setBlock],λk _ hk=>by simp only[ChangeMaps.setBlock];rw[XW (λe=>hk e.symm)]⟩
structure afm(P:Program)(ops:Array Oper)(T:TypeId)(key fv:Nat->Value):Prop where
 size:ops.size=17
 ord:∀(i:Nat) o,ops[i]?=some o->∀e∈o.after,Region.binds .any e=true->e.on<i
 o0:∃o T',ops[0]?=some o/\o.guard=none/\o.dst=some 12/\o.op=.makeMap T' none
 ob:∀k,k<7->∃o,ops[2*k+1]?=some o/\o.guard=none/\o.dst=some (13+k)/\∀l w (K:KW),K (key k) w->aIG P l o w K (λ_ _=>False)
 oi:∀k,k<7->∃o f,ops[2*k+2]?=some o/\o.guard=none/\o.dst=none/\o.op=.insert T (.tmp 12) (.tmp (13+k)) (.func f)/\fv k=.func (.func f) #[] #[]/\(∃e∈o.after,Region.binds .any e=true/\e.on=0)/\∃e∈o.after,Region.binds .any e=true/\e.on=2*k+1
 om:∃o,ops[15]?=some o/\o.guard=none/\o.dst=some 20/\o.op=.move (.tmp 12)/\∃e∈o.after,Region.binds .any e=true/\e.on=0
 oa:∃o,ops[16]?=some o/\o.guard=none/\o.dst=some 5/\o.op=.assign (.tmp 20)/\∃e∈o.after,Region.binds .any e=true/\e.on=15
abbrev BA:List Nat:=[5,12,13,14,15,16,17,18,19,20]
structure LI(l0:Fr)(w0:World)(key fv:Nat->Value)(b:Nat->Bool)(l:Fr)(w:World):Prop where
 off:cu BA l0 l
 kb:∀k,k<7->b (2*k+1)=true->l[13+k]?=some (key k)
 m0:b 0=false->w=w0/\∀k,k<7->b (2*k+2)=false
 m1:b 0=true->l[12]?=some (.map (some w0.heap.size))/\Still w0 w/\w.heap.size=w0.heap.size+1/\AY w w0.heap.size (((List.range 7).filter λk=>b (2*k+2)).map λk=>(key k,fv k))
 mm:b 15=true->l[20]?=some (.map (some w0.heap.size))
 ma:b 16=true->l[5]?=some (.map (some w0.heap.size))
def jg{b:Nat->Bool}{i j:Nat}(h:j≠i):eF b i j=b j:=aG h
def afn{b:Nat->Bool}{i:Nat}:eF b i i=true:=aL rfl
def Mn{l0 l:Fr}{d:Nat}{v:Value}(h:cu BA l0 l)(hd:d∈BA):cu BA l0 (put l (some d) v):=
 h.trans (cu.put l (some d) v) (λ_ h=>h) (λt ht=>by rw[Option.mem_toList]at ht;cases ht;exact hd)
def rZ{l:Fr}{d t:Nat}{v:Value}(h:d≠t):(put l (some d) v)[t]?=l[t]?:=rJ h
def put_eq{l:Fr}{d:Nat}{v:Value}(h:d<l.length):(put l (some d) v)[d]?=some v:=sW h
def aqY{b:Nat->Bool}{k:Nat}(hk:k<7)(hb:b (2*k+2)=false):((List.range 7).filter λj=>eF b (2*k+2) (2*j+2)).Perm (((List.range 7).filter λj=>b (2*j+2))++[k]):=by
 have nd:(List.range 7).Nodup:=List.nodup_range;refine(List.perm_ext_iff_of_nodup (nd.filter _) ?_).2 λj=>?_
 .refine QC.2 ⟨nd.filter _,by simp,λa ha c hc=>?_⟩
  obtain rfl:=gE.1 hc;rintro rfl;rw[Q7,hb]at ha;cases ha.2
 .simp only[Q7,yg,kW,gE]
  by_cases hj:j=k
  .subst hj
   rw[afn];simp[hk]
  .rw[jg (by omega)]
   simp[hj]
def axi{P:Program}{ops:Array Oper}{T tk te:TypeId}{key fv:Nat->Value}(hL:afm P ops T key fv)(hm:P.follows .mixedOrders=true)(hT:P.underlying T=some (.map tk te))(KL:WideMaps.KeyLaw P tk)
  (hkeys:∀k,k<7->∃lk,keyOf P tk (key k)=some lk)(hinj:∀j k,j<7->k<7->key j=key k->j=k){id:Nat}{Q:Exit->Act->World->Prop}{l:Fr}{ds:List Deferred}{w:World}(hl:21<=l.length)
  (hQ:∀l' w',cu BA l l'->l'[5]?=some (.map (some w.heap.size))->Still w w'->w'.heap.size=w.heap.size+1->AY w' w.heap.size ((List.range 7).map λk=>(key k,fv k))->Q .normal (act l' ds) w'):
  (Code.region id ops true).wp P Q (act l ds) w:=by
 refine wp_region_any hm ?_;have e0:Array.replicate ops.size false=aJG 17 (λ_=>false):=by apply jF;rw[hL.size];rfl
 rw[e0];refine aqW hL.size (λb a w'=>∃l',a=act l' ds/\LI l w.drew key fv b l' w') ?_ hL.ord ?_ _ _ _ _ (by rw[ack,hL.size]) ⟨l,rfl,cu.refl _ _,λ_ _ h=>(by cases h),λ_=>⟨rfl,λ_ _=>rfl⟩,λh=>(by cases h),λh=>(by cases h),λh=>(by cases h)⟩
 .rintro b _ w' ⟨l',rfl,h⟩ hall
  obtain⟨_,h2,h3,h4⟩:=h.m1 (hall 0 (by omega));refine hQ l' w' h.off (h.ma (hall 16 (by omega))) (Still.afa h2) h3 ?_;have:(List.range 7).filter (λk=>b (2*k+2))=List.range 7:=FZ.2 λk hk=>hall _ (by have:=yg.1 hk;omega);rw[this]at h4;exact h4
 .rintro b _ w' i o ⟨l',rfl,h⟩ ho hb NQ
  have hlen:=h.off.1;have hi:i<17:=by rw[<-hL.size];exact(aH0.1 ho).1
  have axj:i=0\/(∃k,k<7/\i=2*k+1)\/(∃k,k<7/\i=2*k+2)\/i=15\/i=16:=by
   by_cases aKh:i=15
   .exact .inr (.inr (.inr (.inl aKh)))
   by_cases aHH:i=16
   .exact .inr (.inr (.inr (.inr aHH)))
   by_cases h0:i=0
   .exact .inl h0
   by_cases h2:i%2=0
   .exact .inr (.inr (.inl ⟨i/2-1,by omega,by omega⟩))
   .exact .inr (.inl ⟨i/2,by omega,by omega⟩)
  rcases axj with rfl|⟨k,hk,rfl⟩|⟨k,hk,rfl⟩|rfl|rfl
  .obtain⟨o',T',ho',hg,hd,hop⟩:=hL.o0
   rw[ho]at ho';obtain rfl:=bU ho';obtain⟨rfl,hno⟩:=h.m0 hb;refine G9 ho hg ?_;simp only[aIG,hop,hd];refine⟨_,rfl,Mn h.off (by simp),λk hk hbk=>?_,λhf=>?_,λ_=>⟨put_eq (by omega),(Mod.refl _ _).alloc _,World.size_alloc ..,?_⟩,λhf=>?_,λhf=>?_⟩
   .rw[jg (by omega)]at hbk
    rw[rZ (by omega)];exact h.kb k hk hbk
   .rw[afn]at hf
    cases hf
   .have:(List.range 7).filter (λk=>eF b 0 (2*k+2))=[]:=List.filter_eq_nil_iff.2 λk hk=>by
     rw[jg (by omega),hno k (yg.1 hk)];decide
    rw[this];exact⟨#[],0,Array.getElem?_push_size,List.Perm.nil⟩
   .rw[jg (by omega)]at hf
    rw[rZ (by omega)];exact h.mm hf
   .rw[jg (by omega)]at hf
    rw[rZ (by omega)];exact h.ma hf
  .obtain⟨o',ho',hg,hd,hop⟩:=hL.ob k hk
   rw[ho]at ho';obtain rfl:=bU ho';refine G9 ho hg (hop _ _ _ ?_);rw[hd];have hmem:13+k∈BA:=by
    have:k=0\/k=1\/k=2\/k=3\/k=4\/k=5\/k=6:=by omega
    rcases this with rfl|rfl|rfl|rfl|rfl|rfl|rfl<;>simp
   refine⟨_,rfl,Mn h.off hmem,λj hj rz=>?_,λhf=>?_,λhf=>?_,λhf=>?_,λhf=>?_⟩
   ·by_cases hjk:j=k
    .subst hjk
     exact put_eq (by omega)
    .rw[jg (by omega)]at rz
     rw[rZ (by omega)];exact h.kb j hj rz
   .rw[jg (by omega)]at hf
    obtain⟨e1,e2⟩:=h.m0 hf;exact⟨e1,λj hj=>by rw[jg (by omega)];exact e2 j hj⟩
   .rw[jg (by omega)]at hf
    obtain⟨e1,e2,e3,e4⟩:=h.m1 hf;refine⟨by rw[rZ (by omega)];exact e1,e2,e3,?_⟩;have:(List.range 7).filter (λj=>eF b (2*k+1) (2*j+2))=(List.range 7).filter (λj=>b (2*j+2)):=Ky λj _=>jg (by omega);rw[this];exact e4
   .rw[jg (by omega)]at hf
    rw[rZ (by omega)];exact h.mm hf
   .rw[jg (by omega)]at hf
    rw[rZ (by omega)];exact h.ma hf
  .obtain⟨o',f,ho',hg,hd,hop,hfv,⟨e1,Jp,hU,IK⟩,e2,tO,fS,azo⟩:=hL.oi k hk
   rw[ho]at ho';obtain rfl:=bU ho';have hb0:=NQ e1 Jp hU;have hbk:=NQ e2 tO fS;rw[IK]at hb0;rw[azo]at hbk;obtain⟨h12,hst,hsz,ms,c,hms,vl⟩:=h.m1 hb0;have hkk:=h.kb k hk hbk;have hin:∀e∈ms.toList,∃j,j<7/\b (2*j+2)=true/\key j=e.key:=by intro e he;have:(e.key,e.val)∈((List.range 7).filter λk=>b (2*k+2)).map λk=>(key k,fv k):=vl.mem_iff.1 (dY.2 ⟨e,he,rfl⟩);obtain⟨j,hj,BB⟩:=dY.1 this;rw[Q7,yg]at hj;exact⟨j,hj.1,hj.2,gJ Prod.fst BB⟩
   obtain⟨lk,hlk⟩:=hkeys k hk;have hrun:=aqX (x:=fv k) hT KL hms hlk (λe he=>by
    obtain⟨j,hj,_,BB⟩:=hin e he;rw[<-BB];exact hkeys j hj) (λe he hke=>by
    obtain⟨j,hj,rz,BB⟩:=hin e he;obtain rfl:=hinj j k hj hk (BB.trans hke);rw[hb]at rz;cases rz)
   refine G9 ho hg ?_;simp only[aIG,hop,hd];refine Mm h12 (Mm hkk ?_);show d_ P T (.map (some w.drew.heap.size)) (key k) (.func (.func f) #[] #[]) w' _
   rw[<-hfv];refine⟨_,hrun,l',rfl,h.off,λj hj rz=>?_,λhf=>?_,λ_=>⟨h12,Mod.trans hst (ao3 _ _ _) (λ_ h=>h) (λi hi e=>by omega),by simpa[ChangeMaps.setBlock]using hsz,?_⟩,λhf=>?_,λhf=>?_⟩
   .rw[jg (by omega)]at rz
    exact h.kb j hj rz
   .rw[jg (by omega),hb0]at hf
    cases hf
   .refine⟨_,_,by simp only[ChangeMaps.setBlock];rw[Array.getElem?_setIfInBounds_self,aL (by omega)],?_⟩
    rw[aKj,wD];refine List.Perm.trans (vl.append_right _) ?_;have:=(aqY hk hb).map λk=>(key k,fv k);rw[wD]at this;exact this.symm
   .rw[jg (by omega)]at hf
    exact h.mm hf
   .rw[jg (by omega)]at hf
    exact h.ma hf
  .obtain⟨o',ho',hg,hd,hop,e1,Jp,hU,IK⟩:=hL.om
   rw[ho]at ho';obtain rfl:=bU ho';have hb0:=NQ e1 Jp hU;rw[IK]at hb0;have h12:=(h.m1 hb0).1;refine G9 ho hg ?_;simp only[aIG,vE,hop,hd];refine Mm h12 ⟨_,rfl,Mn h.off (by simp),λj hj rz=>?_,λhf=>?_,λhf=>?_,λ_=>put_eq (by omega),λhf=>?_⟩
   .rw[jg (by omega)]at rz
    rw[rZ (by omega)];exact h.kb j hj rz
   .rw[jg (by omega),hb0]at hf
    cases hf
   .obtain⟨e1,e2,e3,e4⟩:=h.m1 hb0
    refine⟨by rw[rZ (by omega)];exact e1,e2,e3,?_⟩;have:(List.range 7).filter (λj=>eF b 15 (2*j+2))=(List.range 7).filter (λj=>b (2*j+2)):=Ky λj _=>jg (by omega);rw[this];exact e4
   .rw[jg (by omega)]at hf
    rw[rZ (by omega)];exact h.ma hf
  .obtain⟨o',ho',hg,hd,hop,e1,Jp,hU,IK⟩:=hL.oa
   rw[ho]at ho';obtain rfl:=bU ho';have agU:=NQ e1 Jp hU;rw[IK]at agU;have qs:=h.mm agU;refine G9 ho hg ?_;simp only[aIG,vE,hop,hd];refine Mm qs ⟨_,rfl,Mn h.off (by simp),λj hj rz=>?_,λhf=>?_,λhf=>?_,λhf=>?_,λ_=>?_⟩
   .rw[jg (by omega)]at rz
    rw[rZ (by omega)];exact h.kb j hj rz
   .rw[jg (by omega)]at hf
    obtain⟨e1,e2⟩:=h.m0 hf;exact⟨e1,λj hj=>by rw[jg (by omega)];exact e2 j hj⟩
   .rw[jg (by omega)]at hf
    obtain⟨e1,e2,e3,e4⟩:=h.m1 hf;refine⟨by rw[rZ (by omega)];exact e1,e2,e3,?_⟩;have:(List.range 7).filter (λj=>eF b 16 (2*j+2))=(List.range 7).filter (λj=>b (2*j+2)):=Ky λj hj=>jg (by have:=yg.1 hj;omega);rw[this];exact e4
   .rw[jg (by omega)]at hf
    rw[rZ (by omega)];exact h.mm hf
   .have h5:5<l'.length:=by omega
    exact put_eq h5
def agV(w:World)(es:List (Value×Value))(K:(Nat->Value)->World->Prop):Prop:=
 ∀(us:Nat->Value) (w':World),Still w w'->w'.heap.size=w.heap.size+1->AY w' w.heap.size es->K us w'
def af3(P:Program)(c:Code)(es:List (Value×Value)):Prop:=
 ∀(Q:Exit->Act->World->Prop) (l:Fr) (ds:List Deferred) (w:World),21<=l.length->(∀l' w',cu BA l l'->l'[5]?=some (.map (some w.heap.size))->Still w w'->w'.heap.size=w.heap.size+1->AY w' w.heap.size es->Q .normal (act l' ds) w')->c.wp P Q (act l ds) w
def ao4{P:Program}{f:FuncId}{fn:Func}{A B C D:Code}{args:List Value}{w:World}{R:Ending->World->Prop}{es:List (Value×Value)}(pl:nX)(hC:af3 P C es)(hf:P.funcs[f]?=some fn)(hb:fn.body=some (.seq A (.seq B (.seq C D))))(hn:21<=fn.ntmps)
  (h:vc P pl A 2 {kL P fn.results.toList R with normal:=λl1 w1=>vc P pl B 6 {kL P fn.results.toList R with normal:=λl2 w2=>agV w2 es λus w3=>AG us BA l2 λl3=>xh l3 5 (.map (some w2.heap.size)) λl4=>vc P pl D 15 (kL P fn.results.toList R) l4 w3} l1 w1} (nI fn.ntmps args) w):Calls P f ⟨args⟩ w R:=by
 refine calls_of_wp hf hb ?_;have e:(Array.mk args)++Array.replicate (fn.ntmps-(Array.mk args).size) undef=⟨nI fn.ntmps args⟩:=by apply jF;simp[Cb]
 rw[e];have hlen:21<=(nI fn.ntmps args).length:=by rw[Cb];simp only[cB,PZ];omega
 have ret:∀l' w',(kL P fn.results.toList R).ret l' w'->bodyPost P fn R .ret (act l' []) w':=λl' w' hk=>by obtain⟨vs,h1,h2⟩:=o7 (ds:=[]) hk;exact⟨rfl,_,h1,h2⟩
 have Oj:∀l' w',(kL P fn.results.toList R).normal l' w'->bodyPost P fn R .normal (act l' []) w':=λl' w' hk=>by obtain⟨vs,h1,h2⟩:=o7 (ds:=[]) hk;exact⟨rfl,_,h1,h2⟩
 refine wp_seq (ny (ds:=[]) A 2 _ _ w _ h (λl1 w1 OF hk1=>?_) (λi l' w' _ hk=>hk.elim) (λl' w' hk=>ret l' w' hk) (λl' ch w' _ hk=>⟨rfl,hk⟩));refine wp_seq (ny (ds:=[]) B 6 _ _ w1 _ hk1 (λl2 w2 tI hk2=>?_) (λi l' w' _ hk=>hk.elim) (λl' w' hk=>ret l' w' hk) (λl' ch w' _ hk=>⟨rfl,hk⟩));refine wp_seq (hC _ _ _ _ (by rw[tI.1,OF.1];exact hlen) λl3 w3 ha3 h5 hst hsz hm=>?_);have h4:=GC (sp:=[(5,.leaf .raw)]) (vs:=[.map (some w2.heap.size)]) (K:=λl4=>vc P pl D 15 (kL P fn.results.toList R) l4 w3) ha3 ⟨h5,trivial⟩ λus=>hk2 us w3 hst hsz hm;exact ny (ds:=[]) D 15 _ _ w3 _ h4 (λl' w' _ hk=>Oj l' w' hk) (λi l' w' _ hk=>hk.elim) (λl' w' hk=>ret l' w' hk) (λl' ch w' _ hk=>⟨rfl,hk⟩)
abbrev agW:TypeId:=385
abbrev td:TypeId:=203
def tG(n:Int)(t:List UInt8):Value:=.agg #[.int .i64 n,.string (S t)]
def EB:List (Int×List UInt8×Nat):=[(1,[40],alZ),(0,[123],alp),(0,[105,102],ak6),(0,[119,104,105,108,101],Yv),(0,[117,110,116,105,108],Yv),(0,[102,111,114],alE),(0,[99,97,115,101],alq)]
def aIu(k:Nat):Value:=let x:=EB.getD k (0,[],0);tG x.1 x.2.1
def EC(k:Nat):Value:=.func (.func (EB.getD k (0,[],0)).2.2) #[] #[]
def Ni:List (Value×Value):=(List.range 7).map λk=>(aIu k,EC k)
noncomputable def MQ:Array Oper:=match Tryz.f267.body with
 |some (.seq _ (.seq _ (.seq (.region _ ops _) _)))=>ops
 |_=>#[]
def seven{p:Nat->Prop}(h0:p 0)(h1:p 1)(h2:p 2)(h3:p 3)(h4:p 4)(h5:p 5)(h6:p 6)(k:Nat)(hk:k<7):p k:=by
 have:k=0\/k=1\/k=2\/k=3\/k=4\/k=5\/k=6:=by omega
 rcases this with rfl|rfl|rfl|rfl|rfl|rfl|rfl<;>assumption
def azp(ops:Array Oper):Bool:=(List.range ops.size).all λi=>match ops[i]? with
 |some o=>o.after.toList.all λe=>!(Region.binds .any e)||Nat.blt e.on i
 |none=>true
def auI{ops:Array Oper}(h:azp ops=true):∀(i:Nat) o,ops[i]?=some o->∀e∈o.after,Region.binds .any e=true->e.on<i:=by intro i o ho e he hb;have hi:i<ops.size:=(aH0.1 ho).1;have h1:=pY.1 h i (yg.2 hi);rw[ho]at h1;have h2:=pY.1 h1 e (Array.mem_toList_iff.2 he);rw[hb]at h2;simpa using h2
set_option maxRecDepth 100000 in
def av9:afm aM MQ 385 aIu EC where
 size:=rfl
 ord:=auI (by kernel_rfl)
 o0:=⟨_,_,rfl,rfl,rfl,rfl⟩
 ob:=seven (p:=λk=>∃o,MQ[2*k+1]?=some o/\o.guard=none/\o.dst=some (13+k)/\∀l w (K:KW),K (aIu k) w->aIG aM l o w K (λ_ _=>False))
  ⟨_,rfl,rfl,rfl,λl w K h=>Eq.mp (by kernel_rfl) h⟩ ⟨_,rfl,rfl,rfl,λl w K h=>Eq.mp (by kernel_rfl) h⟩ ⟨_,rfl,rfl,rfl,λl w K h=>Eq.mp (by kernel_rfl) h⟩ ⟨_,rfl,rfl,rfl,λl w K h=>Eq.mp (by kernel_rfl) h⟩ ⟨_,rfl,rfl,rfl,λl w K h=>Eq.mp (by kernel_rfl) h⟩ ⟨_,rfl,rfl,rfl,λl w K h=>Eq.mp (by kernel_rfl) h⟩ ⟨_,rfl,rfl,rfl,λl w K h=>Eq.mp (by kernel_rfl) h⟩
 oi:=seven (p:=λk=>∃o f,MQ[2*k+2]?=some o/\o.guard=none/\o.dst=none/\o.op=.insert 385 (.tmp 12) (.tmp (13+k)) (.func f)/\EC k=.func (.func f) #[] #[]/\(∃e∈o.after,Region.binds .any e=true/\e.on=0)/\∃e∈o.after,Region.binds .any e=true/\e.on=2*k+1)
  ⟨_,_,rfl,rfl,rfl,rfl,rfl,⟨_,aH1 (i:=0) rfl,rfl,rfl⟩,_,aH1 (i:=1) rfl,rfl,rfl⟩ ⟨_,_,rfl,rfl,rfl,rfl,rfl,⟨_,aH1 (i:=0) rfl,rfl,rfl⟩,_,aH1 (i:=1) rfl,rfl,rfl⟩ ⟨_,_,rfl,rfl,rfl,rfl,rfl,⟨_,aH1 (i:=0) rfl,rfl,rfl⟩,_,aH1 (i:=1) rfl,rfl,rfl⟩ ⟨_,_,rfl,rfl,rfl,rfl,rfl,⟨_,aH1 (i:=0) rfl,rfl,rfl⟩,_,aH1 (i:=1) rfl,rfl,rfl⟩ ⟨_,_,rfl,rfl,rfl,rfl,rfl,⟨_,aH1 (i:=0) rfl,rfl,rfl⟩,_,aH1 (i:=1) rfl,rfl,rfl⟩ ⟨_,_,rfl,rfl,rfl,rfl,rfl,⟨_,aH1 (i:=0) rfl,rfl,rfl⟩,_,aH1 (i:=1) rfl,rfl,rfl⟩ ⟨_,_,rfl,rfl,rfl,rfl,rfl,⟨_,aH1 (i:=0) rfl,rfl,rfl⟩,_,aH1 (i:=1) rfl,rfl,rfl⟩
 om:=⟨_,rfl,rfl,rfl,rfl,_,aH1 (i:=0) rfl,rfl,rfl⟩
 oa:=⟨_,rfl,rfl,rfl,rfl,_,aH1 (i:=0) rfl,rfl,rfl⟩
def aeq:WideMaps.KeyLaw aM 203:=deep_law (m:=3) (by decide) (by kernel_rfl) (by kernel_rfl) (by kernel_rfl)
end Go.Proofs.YtihaaoehhgmphaaGreatDoor.L
namespace Go.Proofs.YtihaaoehhgmphaaGreatDoor.L
open IntKind Go.RowKit Vc
variable{w:World}
def keyLits_int{d:Nat}{t:TypeId}{n:Int}(ht:Tryz.prog.underlying t=some (.int .i64))(hn:(Lit.int .i64 n).wf=true):Tryz.prog.keyLits (d+1) t [.int .i64 n]=some [.int .i64 n]:=by unfold Program.keyLits;rw[ht];simp[hn]
def apK{d:Nat}{t:TypeId}{s:List UInt8}(ht:Tryz.prog.underlying t=some .string)(hs:(S s).size<=maxLen):∃l,Tryz.prog.keyLits (d+1) t [.string (S s)]=some l:=by unfold Program.keyLits;rw[ht];exact⟨_,aL hs⟩
set_option maxRecDepth 100000 in
def aqZ:∃f1 f2:Field,Tryz.prog.underlying td=some (.struct #[f1,f2])/\f1.offset=0/\f2.offset=1/\Tryz.prog.underlying f1.type=some (.int .i64)/\Tryz.prog.underlying f2.type=some .string/\Tryz.prog.cellsOf f1.type=1/\Tryz.prog.cellsOf f2.type=1/\(#[f1,f2].all (·.name != "_"))=true:=
 ⟨_,_,rfl,rfl,rfl,rfl,rfl,rfl,rfl,by simp⟩
def AA{n:Int}{t:List UInt8}(hn:(Lit.int .i64 n).wf=true)(ht:(S t).size<=maxLen):∃lk,keyOf aM td (tG n t)=some lk:=by
 obtain⟨f1,f2,hu,e1,e2,u1,u2,c1,c2,ha⟩:=aqZ;have hk:Tryz.prog.keyType td=true:=by kernel_rfl
 have hc:Tryz.prog.cellsOf td=2:=by kernel_rfl
 have hf:(tG n t).formed aM td=true:=by simp only[tG,Value.formed,hu,hc];rfl
 obtain⟨l2,h2⟩:=apK (d:=Tryz.prog.types.size-1) u2 ht;have h1:=keyLits_int (d:=Tryz.prog.types.size-1) u1 hn;have hsz:Tryz.prog.types.size=Tryz.prog.types.size-1+1:=by
  have:0<Tryz.prog.types.size:=YB λh=>by
   have hx:Nat.ble 1 Tryz.prog.types.size=true:=by kernel_rfl
   rw[h]at hx;cases hx
  omega
 have hl:∃ls,Tryz.prog.keyLits (Tryz.prog.types.size+1) td [.int .i64 n,.string (S t)]=some ls:=by
  have e0:Tryz.prog.keyLits (Tryz.prog.types.size+1) td [.int .i64 n,.string (S t)]=([f1,f2].mapM λf=>Tryz.prog.keyLits Tryz.prog.types.size f.type ((([Value.int .i64 n,.string (S t)]:List Value).drop f.offset).take (Tryz.prog.cellsOf f.type))).map List.flatten:=by
   conv=>lhs;unfold Program.keyLits
   rw[hu];exact aL ⟨by rw[hc];rfl,ha⟩
  refine⟨([[.int .i64 n],l2]:List (List Lit)).flatten,e0.trans ?_⟩;rw[yf,e1,c1];have a1:Tryz.prog.keyLits Tryz.prog.types.size f1.type [.int .i64 n]=some [.int .i64 n]:=by rw[hsz];exact h1
  have a2:Tryz.prog.keyLits Tryz.prog.types.size f2.type [.string (S t)]=some l2:=by rw[hsz];exact h2
  have b2:([f2].mapM λf=>Tryz.prog.keyLits Tryz.prog.types.size f.type ((([Value.int .i64 n,.string (S t)]:List Value).drop f.offset).take (Tryz.prog.cellsOf f.type)))=some [l2]:=by
   rw[yf,e2,c2];show(do let y<-Tryz.prog.keyLits Tryz.prog.types.size f2.type [.string (S t)];_)=_
   rw[a2];rfl
  rw[b2];show Option.map List.flatten (do let y<-Tryz.prog.keyLits Tryz.prog.types.size f1.type [.int .i64 n];_)=_
  rw[a1];rfl
 obtain⟨ls,hl⟩:=hl;unfold keyOf;rw[hu];exact⟨.string (keyBytes ls),(aL (by rw[hk,hf];rfl)).trans (by show Option.map _ (Tryz.prog.keyLits (Tryz.prog.types.size+1) td [.int .i64 n,.string (S t)])=_;rw[hl];rfl)⟩
def axk{n:Nat}(h:n<1000):(Lit.int .i64 (n:Int)).wf=true:=by
 have e1:i64.min= -9223372036854775808:=by decide
 have e2:i64.max=9223372036854775807:=by decide
 simp only[Lit.wf,e1,e2,aHo,oC];omega
def adl(k:Nat)(hk:k<7):∃lk,keyOf aM td (aIu k)=some lk:=
 seven (p:=λk=>∃lk,keyOf aM td (aIu k)=some lk) (AA (by decide) (by decide)) (AA (by decide) (by decide)) (AA (by decide) (by decide)) (AA (by decide) (by decide)) (AA (by decide) (by decide)) (AA (by decide) (by decide)) (AA (by decide) (by decide)) k hk
def adm{n m:Int}{s t:List UInt8}(h:tG n s=tG m t):n=m/\s=t:=by simp only[tG,Value.agg.injEq]at h;have h:=gJ Array.toList h;simp only[List.cons.injEq,Value.int.injEq,Value.string.injEq,true_and,and_true]at h;refine⟨h.1,?_⟩;have:=gJ ByteArray.toList h.2;simpa[yy]using this
set_option maxRecDepth 100000 in
def av_(j k:Nat)(hj:j<7)(hk:k<7)(h:aIu j=aIu k):j=k:=by
 have h:=adm h;have key:∀j,j<7->∀k,k<7->(EB.getD j (0,[],0)).1=(EB.getD k (0,[],0)).1/\(EB.getD j (0,[],0)).2.1=(EB.getD k (0,[],0)).2.1->j=k:=by decide
 exact key j hj k hk h
noncomputable def awa:Code:=.region 3 MQ true
set_option maxRecDepth 100000 in
def awb:af3 aM awa Ni:=λQ l ds w hl h=>axi av9 rfl rfl aeq adl av_ hl h
set_option maxRecDepth 100000 in
def auJ{g n:Nat}{t:List UInt8}{K:Value->Bool->Prop}(hm:AY w g Ni)(hn:n<1000)(ht:t.length<1000000)(h1:∀j,j<7->aIu j=tG n t->K (EC j) true)(h2:(∀j,j<7->aIu j≠tG n t)->K .nilFunc false):
  AQ aM agW (.map (some g)) (tG n t) w K:=by
 obtain⟨ms,c,hg,hp⟩:=hm;obtain⟨te,hT,hz⟩:∃te,Tryz.prog.underlying agW=some (.map td te)/\∀w,(zeroValue te).run aM w=.ok .nilFunc w:=by refine⟨_,rfl,λw=>?_⟩;rfl
 obtain⟨lk,hlk⟩:=AA (n:=n) (t:=t) (axk hn) (by simp only[maxLen];show t.length<=_;omega);have KL:=Maps.Keyed.of_law aeq;have hin:∀e∈ms.toList,∃j,j<7/\aIu j=e.key/\EC j=e.val:=by intro e he;have:(e.key,e.val)∈Ni:=hp.mem_iff.1 (dY.2 ⟨e,he,rfl⟩);obtain⟨j,hj,BB⟩:=dY.1 this;rw[yg]at hj;exact⟨j,hj,gJ Prod.fst BB,gJ Prod.snd BB⟩
 have hall:∀e∈ms.toList,∃l,keyOf aM td e.key=some l:=λe he=>by obtain⟨j,hj,e1,_⟩:=hin e he;rw[<-e1];exact adl j hj
 rcases KL.find w hlk ms.toList hall with⟨f1,f2⟩|⟨j,e0,f1,f2,f3⟩
 .refine⟨.nilFunc,false,by simp[Instr.lookup,run_underlying hT,MapKept.run_getObj_map hg,KL.check w _ hlk,f1,hz,Result.andThen],h2 λj hj e=>?_⟩
  have:(aIu j,EC j)∈ms.toList.map λe=>(e.key,e.val):=hp.mem_iff.2 (dY.2 ⟨j,yg.2 hj,rfl⟩);obtain⟨e0,xM,ee⟩:=dY.1 this;exact f2 e0 xM ((gJ Prod.fst ee).trans e)
 .obtain⟨j,hj,e1,e2⟩:=hin e0 (aJk f2)
  refine⟨e0.val,true,by simp[Instr.lookup,run_underlying hT,MapKept.run_getObj_map hg,KL.check w _ hlk,f1,Result.andThen],?_⟩;rw[<-e2];exact h1 j hj (e1.trans f3)
end Go.Proofs.YtihaaoehhgmphaaGreatDoor.L
namespace Go.Proofs.YtihaaoehhgmphaaGreatDoor.L
open IntKind Go.RowKit Vc
set_option maxRecDepth 100000
variable(w:zW)(R:zE)
def ake(p:zO)(depth:Int)(aC:zM w [zI 0,zB false,zS [],zN,zN,zN,zN,zN] 66 λw1=>an (decide (30<depth)) (R (.panicked [{v:=(.iface 28 (zI 2)),recovered:=false}]) w1) (agV w1 Ni (λus w2=>aIl uc [zP p,zI 0] w2 R λdh oH w3=>AQ aM 385 (.map (some w1.heap.size)) (.agg #[zI dh,zS oH]) w3 (λlv ok=>kD (λxJ=>an ok (gu lv (λg first cap=>an (dD aM g) (aq g ⟨first++([zP p,zI depth]++cap)⟩ w3 (λdm w4=>(∃(rV:Int)(nY:Bool)(rName:zT)(nJ:zO)(nE aHT:Nat)(nB:zO)(nv aHQ:Nat)(nG:zO)(aHS nD:Nat)(nZ:zO)(nO nP:Nat)(nQ:zO)(nK nL:Nat),dm=.returned (.agg #[zI rV,zB nY,zS rName,zL nJ nE aHT,zL nB nv aHQ,zL nG aHS nD,zL nZ nO nP,zL nQ nK nL])/\zX w4 [zI 0,zB false,zS [],zN,zN,zN,zN,zN] 66 [zI rV,zB nY,zS rName,zL nJ nE aHT,zL nB nv aHQ,zL nG aHS nD,zL nZ nO nP,zL nQ nK nL] λw6=>tJ w6 λxI m w7=>aHn J9 [zP p] w7 R λr w8=>an r (zH w8.drew λSw=>gd Sw (zA w4 5) λv vL vC=>agA FW [zP p] w8.drew R λzv yO yE yF w9=>Sw w9/\zM w9 [zS zv,zL yO yE yF] 138 λaO=>Sw aO/\dL aO 138 2 40 v vL vC (some (zA w9 0)) 1 (λp1 cp bh=>zC (zA w4 5) bh [zL p1 (vL+1) cp] λbE=>xI bE/\m bE<m w7)) (iC w8 w4.heap.size λcH fK cC aHx fA fB aHv aHt aHu aHw fu fy aHy fG fH fI fE fF=>zC (zA w 0) w8 [zI cH,zB fK,zS cC,zL aHx fA fB,zL aHv aHt aHu,zL aHw fu fy,zL aHy fG fH,zL fI fE fF] λbw=>iC bw w.heap.size λeY kA eA j9 j6 j7 j0 jY jZ j8 aHF j4 kB kj ko kr j_ ke=>zR R (.agg #[zI eY,zB kA,zS eA,zL j9 j6 j7,zL j0 jY jZ,zL j8 aHF j4,zL kB kj ko,zL kr j_ ke]) bw))\/(∃gH,dm=.panicked gH/\R (.panicked gH) w4))) False)) (gN (λaY=>fR KJ [] w3 R λr1 rL rC bO=>aHn wC [zP p,zI 0,zL r1 rL rC] bO R λr2 b8=>an r2 (aY r2 b8) (zM b8 [zS [33]] 9 λaHe=>aHn wC [zP p,zI 0,zL (some (zA b8 0)) 1 1] aHe R λr3 cF=>aY r3 cF)) λx cL=>an x (R (.panicked [{v:=(.iface 28 (zI 100)),recovered:=false}]) cL) (gN (λjc=>aIl uc [zP p,zI 0] cL R λHO UC dV=>an (decide (HO=0)) (aIl uc [zP p,zI 0] dV R λaFT axl eu=>aHn DW [zS axl] eu R λr4 eM=>an r4 (aIl uc [zP p,zI 1] eM R λaxm axn eO=>an ((decide (axm=1))&&((decide (axn=[40]))&&true)) (aIl uc [zP p,zI 2] eO R λaxo axp k_=>jc ((decide (axo=1))&&((decide (axp=[41]))&&true)) k_) (jc false eO)) (jc false eM)) (jc false dV)) λx1 jO=>an x1 (CS akm [zP p,zI depth] jO R λaxq Ic HP Hu G2 G3 GN GD GF G4 GO GP Ie HQ HR HS Hv Hw mY=>zC (zA w 0) mY [zI axq,zB Ic,zS HP,zL Hu G2 G3,zL GN GD GF,zL G4 GO GP,zL Ie HQ HR,zL HS Hv Hw] λzn=>iC zn w.heap.size λmO vh kN uJ uB uC uu aI1 aI2 uD uv aI5 vi uX uY uZ uK uL=>zR R (.agg #[zI mO,zB vh,zS kN,zL uJ uB uC,zL uu aI1 aI2,zL uD uv aI5,zL vi uX uY,zL uZ uK uL]) zn) (xJ jO)))) λpM=>CS P5 [zP p] pM R λaxr ayh axt awc auK auL asF aq0 aq1 auM asG asH ayi axu axv axw awd awe aJg=>zC (zA w 0) aJg [zI axr,zB ayh,zS axt,zL awc auK auL,zL asF aq0 aq1,zL auM asG asH,zL ayi axu axv,zL axw awd awe] λJj=>iC Jj w.heap.size λrU vj aH9 uM uE uF aI6 aI3 uq uG uy uz aI_ aI7 u5 u6 uN uO=>zR R (.agg #[zI rU,zB vj,zS aH9,zL uM uE uF,zL aI6 aI3 uq,zL uG uy uz,zL aI_ aI7 u5,zL u6 uN uO]) Jj)))):aq Ke #[zP p,zI depth] w R:=
 ao4 {live:=[(31,[]),(3988,[]),(499,[(44,(.leaf .bool))]),(1999,[(52,(.leaf .bool))])],lY:=[(8,.held)]} awb Tryz.func267 rfl (by decide) (Eq.mp (by kernel_rfl) aC)
end Go.Proofs.YtihaaoehhgmphaaGreatDoor.L
namespace Go.Proofs.YtihaaoehhgmphaaGreatDoor.L
open IntKind Go.RowKit Vc
def Fe(t t':ag):Prop:=∀c r',t'=c::r'->(c=40\/c=123)->∃r,t=c::r
def Fe.head(c:UInt8)(t t':ag):Fe (c::t) (c::t'):=λd r' h _=>⟨t,by injection h with h1 h2;rw[h1]⟩
def Fe.app{t t':ag}(h:Fe t t'):∀y:ag,Fe (y++t) (y++t')
 |[]=>h
 |c::y=>Fe.head c _ _
end Go.Proofs.YtihaaoehhgmphaaGreatDoor.L
namespace Go.Proofs.YtihaaoehhgmphaaGreatDoor.A
open IntKind Go.RowKit Vc
def vS(B:UInt8->Prop):Tm->Prop
 |.num _=>True
 |.vQ _=>True
 |.tN _ t=>vS B t
 |.bin _ a b=>vS B a/\vS B b
 |.h_ c a b=>vS B c/\vS B a/\vS B b
 |.set x _ t=>(∀c∈x,B c)/\vS B t
def Ar{s:ag}{c:UInt8}(h:c∈trim s):c∈s:=(List.dropWhile_sublist _).subset h
def Cq{s:ag}{c:UInt8}(h:c∈fT s):c∈s:=Ar (FV h)
def awf{s n o r:ag}(h:qp s=some (n,o,r)):(∀c∈n,c∈s)/\∀c∈r,c∈s:=by
 unfold qp at h;dsimp only at h;split at h
 .injection h with h
  injection h with h1 h2;injection h2 with h2 h3;rw[<-h1,<-h3];exact⟨λc hc=>Ar (Kk hc),λc hc=>Ar (FV (Cq hc))⟩
 .cases h
def auN{B:UInt8->Prop}{s r:ag}{t:Tm}(h:vv s=.ok (t,r)):vS B t/\∀c∈r,c∈s:=by
 unfold vv at h;dsimp only at h;split at h
 .injection h with h
  injection h with h1 h2;rw[<-h1,<-h2];exact⟨trivial,λc hc=>FV hc⟩
 .split at h
  .injection h with h
   injection h with h1 h2;rw[<-h1,<-h2];exact⟨trivial,λc hc=>FV hc⟩
  .cases h
def ayj{B:UInt8->Prop}{m:Cm}{s:ag}{q:Pr (Tm×ag)}(h:Cl m s q):(∀c∈s,B c)->∀t r,q=.ok (t,r)->(∀l d a,m=.p_ l d a->vS B a)->vS B t/\∀c∈r,B c:=by
 have two:∀{t t':Tm} {s s':ag},(Pr.ok (t,s):Pr (Tm×ag))=.ok (t',s')->t=t'/\s=s':=by intro t t' s s' e;injection e with e;injection e with e1 e2;exact⟨e1,e2⟩
 induction h with
 |MJ h=>intro _ t r e;cases e
 |Nb h ha h1 ih=>intro hs t r e _;obtain⟨rfl,rfl⟩:=two e;have hx:=awf ha;have:=ih (λc hc=>hs c (hx.2 c hc)) _ _ rfl (λ_ _ _ e=>by cases e);exact⟨⟨λc hc=>hs c (hx.1 c hc),this.1⟩,this.2⟩
 |aKo h ha h1 ih=>intro _ t r e;cases e
 |MK h ha h1 ih=>intro hs t r e _;exact ih (λc hc=>hs c (Ar hc)) t r e (λ_ _ _ e=>by cases e)
 |Nc h1 ih=>intro _ t r e;cases e
 |NK h1 ho ih=>intro hs t r e _;obtain⟨rfl,rfl⟩:=two e;have:=ih hs _ _ rfl (λ_ _ _ e=>by cases e);exact⟨this.1,λc hc=>this.2 c (Ar hc)⟩
 |ML h1 ho h2 ih1 ih2=>intro _ t r e;cases e
 |Mj h1 ho h2 cc ih1 ih2=>intro _ t r e;cases e
 |MM h1 ho h2 cc h3 ih1 ih2 ih3=>intro _ t r e;cases e
 |NL h1 ho h2 cc h3 ih1 ih2 ih3=>intro hs t r e _;obtain⟨rfl,rfl⟩:=two e;have a1:=ih1 hs _ _ rfl (λ_ _ _ e=>by cases e);have a2:=ih2 (λc hc=>a1.2 c (Cq hc)) _ _ rfl (λ_ _ _ e=>by cases e);have a3:=ih3 (λc hc=>a2.2 c (Cq hc)) _ _ rfl (λ_ _ _ e=>by cases e);exact⟨⟨a1.1,a2.1,a3.1⟩,a3.2⟩
 |MN h1 ih=>intro _ t r e;cases e
 |bin h1 h2 ih1 ih2=>intro hs t r e _;have a1:=ih1 hs _ _ rfl (λ_ _ _ e=>by cases e);exact ih2 a1.2 t r e (λ_ _ _ e=>by injection e with _ _ e;rw[<-e];exact a1.1)
 |yS h=>intro hs t r e ha;obtain⟨rfl,rfl⟩:=two e;exact⟨ha _ _ _ rfl,λc hc=>hs c (Ar hc)⟩
 |AW h h1 ih=>intro _ t r e;cases e
 |@yH m d s r a b q h h1 h2 ih1 ih2=>intro hs t r' e ha;have a1:=ih1 (λc hc=>hs c (Cq hc)) _ _ rfl (λ_ _ _ e=>by cases e);refine ih2 a1.2 t r' e (λ_ _ _ e=>?_);injection e with _ _ e;rw[<-e];exact⟨ha _ _ _ rfl,a1.1⟩
 |MO h=>intro _ t r e;cases e
 |unOp h ho h1 ih=>intro hs t r e _;obtain⟨rfl,rfl⟩:=two e;have:=ih (λc hc=>hs c (Cq hc)) _ _ rfl (λ_ _ _ e=>by cases e);exact⟨this.1,this.2⟩
 |Mk h ho h1 ih=>intro _ t r e;cases e
 |aKp h ho h1 ih=>intro _ t r e;cases e
 |Ml h ho h1 cc ih=>intro _ t r e;cases e
 |Nf h ho h1 cc ih=>intro hs t r e _;obtain⟨rfl,rfl⟩:=two e;have:=ih (λc hc=>hs c (Cq hc)) _ _ rfl (λ_ _ _ e=>by cases e);exact⟨this.1,λc hc=>this.2 c (Cq hc)⟩
 |aKs h ho cc=>intro hs t r e _;have:=auN (B:=B) e;exact⟨this.1,λc hc=>hs c (Ar (this.2 c hc))⟩
def lS{α β:Type}{r:Pr α}{f:α->Pr β}{b:β}(h:n_ r f=.ok b):∃a,r=.ok a/\f a=.ok b:=by
 cases r with
 |bad k=>cases h
 |ok a=>exact⟨a,rfl,h⟩
def asI{V V':List Vr}{x y:ag}{z z':Int}(hn:y≠x)(h:su V x z=.ok (z',V')):get y V'=get y V:=by
 unfold su at h;split at h
 .rename_i h0
  injection h with h;injection h with h1 h2;rw[<-h2];unfold i_ at h0⊢
  by_cases h3:isName x=true
  .rw[aL h3]at h0⊢
   by_cases h4:(getD x V).ro=true
   .rw[aL h4]at h0
    exact absurd h0 (by decide)
   .rw[aG h4]
    exact ZK _ hn _
  .rw[aG h3]at h0
   exact absurd h0 (by decide)
 .cases h
def wY{B:UInt8->Prop}{y:ag}(hy:∃c∈y,¬B c):∀(t:Tm) {V V':List Vr} {z:Int},vS B t->ev t V=.ok (z,V')->get y V'=get y V
 |.num n,V,V',z,_,h=>by injection h with h;injection h with h1 h2;rw[h2]
 |.vQ x,V,V',z,_,h=>by obtain⟨n,_,h⟩:=lS h;injection h with h;injection h with h1 h2;rw[h2]
 |.tN op t,V,V',z,hn,h=>by obtain⟨p,h1,h⟩:=lS h;injection h with h;injection h with _ h2;rw[<-h2];exact wY hy t hn h1
 |.bin op a b,V,V',z,hn,h=>by
  simp only[ev]at h;obtain⟨p,h1,h⟩:=lS h;have e1:=wY hy a hn.1 h1;split at h
  .split at h
   .injection h with h
    injection h with _ h2;rw[<-h2,e1]
   .obtain⟨q,h2,h⟩:=lS h
    injection h with h;injection h with _ h3;rw[<-h3,wY hy b hn.2 h2,e1]
  .split at h
   .split at h
    .injection h with h
     injection h with _ h2;rw[<-h2,e1]
    .obtain⟨q,h2,h⟩:=lS h
     injection h with h;injection h with _ h3;rw[<-h3,wY hy b hn.2 h2,e1]
   .obtain⟨q,h2,h⟩:=lS h
    obtain⟨r,_,h⟩:=lS h;injection h with h;injection h with _ h3;rw[<-h3,wY hy b hn.2 h2,e1]
 |.h_ c a b,V,V',z,hn,h=>by
  simp only[ev]at h;obtain⟨p,h1,h⟩:=lS h;have e1:=wY hy c hn.1 h1;split at h
  .rw[wY hy a hn.2.1 h,e1]
  .rw[wY hy b hn.2.2 h,e1]
 |.set x op t,V,V',z,hn,h=>by
  simp only[ev]at h;obtain⟨p,h1,h⟩:=lS h;obtain⟨v,_,h⟩:=lS h;have hne:y≠x:=by rintro rfl;obtain⟨c,hc,hb⟩:=hy;exact hb (hn.1 c hc)
  rw[asI hne h,wY hy t hn.2 h1]
end Go.Proofs.YtihaaoehhgmphaaGreatDoor.A
namespace Go.Proofs.YtihaaoehhgmphaaGreatDoor.D
open IntKind Go.RowKit Vc
structure St where
 n:Nat
 F:Nat->UInt8
 e:Bool
 p:Int
 m:Int
structure zy(w:World)(g b:Nat)(s:St):Prop where
 top:Row w g am9 #[.slice (some ⟨b,0,none⟩) s.n s.n,.bool s.e,.int .i64 s.p,.int .u64 s.m]
 bytes:Row w b am_ ⟨Cw s.F (s.n*64)⟩
structure St.Ok(s:St):Prop where
 n1:1<=s.n
 n2:s.n<=4096
 p0:0<=s.p
 p1:s.p<9223372036854775808
 m0:0<=s.m
 m1:s.m<18446744073709551616
variable{w:World}{g b h q:Nat}{s:St}
def zy.mod{w':World}{T:Nat->Prop}(d:zy w g b s)(hm:Mod T w w')(h1:¬T g)(h2:¬T b):zy w' g b s:=⟨d.top.mod hm h1,d.bytes.mod hm h2⟩
def aod(d:zy w g b s)(k:Int):aq QL #[.pointer (some ⟨g,0,none⟩),.int .i64 k] w
  (λe w'=>e=.returned (.pointer (if 0<=k/\k<s.n then some ⟨b,k.toNat*64,none⟩else none))/\w'=w):=by
 apply aly;refine aA (λh=>?_) (λh=>⟨_,_,_,d.top.dy rfl,?_⟩)
 .rw[aG (by have:=aR h;omega)];exact⟨rfl,rfl⟩
 .have h0:=aX h
  refine aA (λh=>?_) (λh=>⟨_,_,_,d.top.dy rfl,by omega,by have:=aX h;omega,?_⟩)
  .rw[aG (by have:=aR h;omega)];exact⟨rfl,rfl⟩
  .rw[aL (by have:=aX h;omega)]
   exact⟨by simp[aHa],rfl⟩
def anw(d:zy w g b s)(k:Int):aq Kv #[.pointer (some ⟨g,0,none⟩),.int .i64 k] w
  (λe w'=>e=.returned (if 0<=k/\k<s.n then .tuple #[.string (S (aJD s.F (k.toNat*64) 64)),.int .i64 0]else .tuple #[.string (S []),.int .i64 1])/\w'=w):=by
 apply akY;refine(aod d k).mono ?_;rintro _ w' ⟨rfl,rfl⟩;refine .inl ⟨_,rfl,?_⟩
 by_cases hk:0<=k/\k<s.n
 .rw[aL hk,aL hk]
  refine⟨_,aqC d.bytes (by omega),rfl,rfl⟩
 .rw[aG hk,aG hk]
  exact⟨rfl,rfl⟩
def St.limit(s:St)(n m:Int):St:={s with e:=false,p:=if 0>n then 0 else n,m:=m}
def ayk(F T:Nat->UInt8)(m:Int)(o x:Nat):Nat->UInt8:=λj=>if o<=j/\j<o+x/\bit m (j-o)=true then T (j-o)else F j
def St.put(s:St)(k:Nat)(t:Nat->UInt8):St:={s with F:=λj=>if k*64<=j/\j<k*64+64 then t (j-k*64)else s.F j}
def St.write(s:St)(k:Int)(text:List UInt8):Int×St:=
 if 0<=k/\k<s.n/\text.length<=64 then
  if s.e then(0,s.put k.toNat λj=>text.getD j 0)
  else if 0<s.p then(0,{s.put k.toNat (λj=>text.getD j 0)with p:=s.p-1})
  else(13,{s with F:=ayk s.F (λj=>text.getD j 0) s.m (k.toNat*64) 64,m:=0})
 else(1,s)
def St.new(n:Nat):St:=⟨n,λ_=>0,true,0,0⟩
def aoe(z:List Value)(hz:∀v∈z,v=.int .u8 0)(h0:z≠[])(N:Nat):madeCells ⟨z⟩ N=⟨Cw (λ_=>0) N⟩:=by
 apply jF;apply aIh;intro i
 by_cases h:i<N
 .have hl:0<z.length:=by cases z with
   |nil=>exact(h0 rfl).elim
   |cons a r=>simp
  have hm:i%z.length<z.length:=DY _ hl;rw[aaL h];simp[madeCells,h];simp[hm];exact hz _ (kI _)
 .rw[t_ (by simp[madeCells];omega),t_ (by simp;omega)]
def anP{n:Int}(h1:1<=n)(h2:n<=4096):aq RO #[.int .i64 n] w
  (λe w'=>∃g b,e=.returned (.tuple #[.pointer (some ⟨g,0,none⟩),.int .i64 0])/\Mod (λ_=>False) w w'/\w.heap.size<=g/\w.heap.size<=b/\zy w' g b (St.new n.toNat)):=by
 apply anj;refine aA (λh=>(by have:=aR h;omega)) (λ_=>aA (λh=>(by have:=aR h;omega)) (λ_=>⟨by omega,by omega,by omega,by omega,?_⟩));rw[aoe _ (by intro v hv;simpa using hv) (by simp)];refine⟨_,w.heap.size,rfl,((Mod.refl _ _).alloc _).alloc _,by simp,aV _,?_,?_⟩
 .exact Row.new _ _ _
 .exact(Row.new w _ _).alloc _
end Go.Proofs.YtihaaoehhgmphaaGreatDoor.D
namespace Go.Proofs.YtihaaoehhgmphaaGreatDoor.L.U
open IntKind
def Iq(sep:ag):List ag->ag
 |[]=>[]
 |x::r=>x++r.flatMap λy=>sep++y
end Go.Proofs.YtihaaoehhgmphaaGreatDoor.L.U
namespace Go.Proofs.YtihaaoehhgmphaaGreatDoor.A
open IntKind Go.RowKit Vc
variable{w:World}
def aa7:∀(k:Nat) (n:Int),n.natAbs=k->eL n->∀w:World,aq B7 #[.int .i64 n] w (λe w'=>e=.returned (.string (S (dec n.natAbs)))/\Still w w'):=by
 intro k
 induction k using Nat.strongRecOn with
 |_ k ih=>
  intro n hk hn w;unfold eL at hn;apply ang;have hm:Int.tmod n 10=if n<0 then-((n.natAbs%10:Nat):Int)else((n.natAbs%10:Nat):Int):=by
   split
   .have e:n= -((n.natAbs:Nat):Int):=by omega
    have:Int.tmod (-((n.natAbs:Nat):Int)) 10= -((n.natAbs%10:Nat):Int):=by rw[Int.neg_tmod];exact gJ Neg.neg (Int.ofNat_tmod n.natAbs 10).symm
    rw[<-e]at this;exact this
   .have e:n=((n.natAbs:Nat):Int):=by omega
    have:Int.tmod ((n.natAbs:Nat):Int) 10=((n.natAbs%10:Nat):Int):=(Int.ofNat_tmod n.natAbs 10).symm;rw[<-e]at this;exact this
  have hd:Int.tdiv n 10=if n<0 then-((n.natAbs/10:Nat):Int)else((n.natAbs/10:Nat):Int):=by
   split
   .have e:n= -((n.natAbs:Nat):Int):=by omega
    have:Int.tdiv (-((n.natAbs:Nat):Int)) 10= -((n.natAbs/10:Nat):Int):=by rw[Int.neg_tdiv];exact gJ Neg.neg (Int.ofNat_tdiv n.natAbs 10).symm
    rw[<-e]at this;exact this
   .have e:n=((n.natAbs:Nat):Int):=by omega
    have:Int.tdiv ((n.natAbs:Nat):Int) 10=((n.natAbs/10:Nat):Int):=(Int.ofNat_tdiv n.natAbs 10).symm;rw[<-e]at this;exact this
  have hw:i64.wrap (Int.tdiv n 10)=Int.tdiv n 10:=by rw[hd];split<;>exact wrap_i64 (by omega) (by omega)
  have U8:∀d:Nat,d<10->u8.wrap (48+(d:Int))=((UInt8.ofNat (48+d)).toNat:Int):=by decide
  have fin:∀{v:Int} {w1:World} {R':World->Prop},v=((UInt8.ofNat (48+n.natAbs%10)).toNat:Int)->(∀w2,Still w w2->(∃bs,s_ (λa v=>w2.cell? a=some v) (some ⟨w.heap.size,0,none⟩) 1 bs/\bs=[UInt8.ofNat (48+n.natAbs%10)])->R' w2)->c7 (w.alloc (.cells #[.int .u8 v] 5)) R':=by intro v w1 R' hv h;refine aQ λw2 hr hs hz=>?_;rw[hv]at hr;exact h w2 hs ⟨_,Row.bytes (l:=[UInt8.ofNat (48+n.natAbs%10)]) (n:=1) hr rfl,rfl⟩
  have agX:∀w2,Still w w2->(10:Int)≠0/\an (decide (i64.wrap (Int.tdiv n 10)=0)) (Ending.returned (.string (S [UInt8.ofNat (48+n.natAbs%10)]))=.returned (.string (S (dec n.natAbs)))/\Still w w2) ((10:Int)≠0/\aq B7 #[.int .i64 (i64.wrap (Int.tdiv n 10))] w2 (λe w3=>(∃r:List UInt8,e=.returned (.string (S r))/\r.length+[UInt8.ofNat (48+n.natAbs%10)].length<=9223372036854775807/\(Ending.returned (.string (S (r++[UInt8.ofNat (48+n.natAbs%10)])))=.returned (.string (S (dec n.natAbs)))/\Still w w3))\/∃ch,e=.panicked ch/\(Ending.panicked ch=.returned (.string (S (dec n.natAbs)))/\Still w w3))):=by
   intro w2 hs;refine⟨by decide,aA (λh=>⟨?_,hs⟩) (λh=>⟨by decide,?_⟩)⟩
   .have h:=aR h
    rw[hw,hd]at h;have:n.natAbs<10:=by split at h<;>omega
    rw[SQ this,YO this]
   .have h:=aX h
    rw[hw]at h⊢;have e1:(Int.tdiv n 10).natAbs=n.natAbs/10:=by rw[hd];split<;>omega
    have h10:¬n.natAbs<10:=by intro hlt;rw[hd]at h;have:n.natAbs/10=0:=Nat.div_eq_of_lt hlt;rw[this]at h;split at h<;>exact h (by decide)
    refine(ih (n.natAbs/10) (by omega) (Int.tdiv n 10) e1 (by unfold eL;rw[hd];split<;>constructor<;>omega) w2).mono ?_;rintro _ w3 ⟨rfl,hs3⟩;refine .inl ⟨_,rfl,?_,?_,hs.trans hs3⟩
    .have hl:=Lib.itoa_length_le (((Int.tdiv n 10).natAbs:Nat):Int) (by omega) (by omega)
     have:Lib.itoa (((Int.tdiv n 10).natAbs:Nat):Int)=dec (Int.tdiv n 10).natAbs:=by unfold Lib.itoa;rw[aG (by omega),b6]
     rw[this]at hl;simp only[bf,aHf];omega
    .rw[e1,ac_ h10]
  refine⟨by decide,aA (λh=>?_) (λh=>?_)⟩
  .have h:=aR h
   have hneg:n<0:=by rw[hm]at h;split at h<;>omega
   have hv:u8.wrap (i64.wrap (48+i64.wrap (0-Int.tmod n 10)))=((UInt8.ofNat (48+n.natAbs%10)).toNat:Int):=by rw[hm,aL hneg,wrap_i64 (n:=0- -((n.natAbs%10:Nat):Int)) (by omega) (by omega),wrap_i64 (by omega) (by omega),<-U8 _ (by omega)];congr 1;omega
   refine fin (w1:=w) hv λw2 hs2 ⟨bs,hb,he⟩=>?_;subst he;exact⟨_,hb,agX w2 hs2⟩
  .have h:=aX h
   have hv:u8.wrap (i64.wrap (48+Int.tmod n 10))=((UInt8.ofNat (48+n.natAbs%10)).toNat:Int):=by
    have e2:Int.tmod n 10=((n.natAbs%10:Nat):Int):=by rw[hm]at h⊢;split<;>(split at h<;>omega)
    rw[e2,wrap_i64 (by omega) (by omega),<-U8 _ (by omega)]
   refine fin (w1:=w) hv λw2 hs2 ⟨bs,hb,he⟩=>?_;subst he;exact⟨_,hb,agX w2 hs2⟩
def ZZ(n:Int)(hn:eL n):aq KT #[.int .i64 n] w (λe w'=>e=.returned (.string (S (Lib.itoa n)))/\Still w w'):=by
 apply amx;refine aA (λh=>?_) (λh=>?_)
 .have h:=aR h
  refine(aa7 _ n rfl hn w).mono ?_;rintro _ w1 ⟨rfl,hs⟩;have hl:=Lib.itoa_length_le n hn.1 (by have:=hn.2;omega);have e:Lib.itoa n=45::dec n.natAbs:=by unfold Lib.itoa;rw[aL h]
  rw[e]at hl⊢;simp only[bf]at hl;exact .inl ⟨_,rfl,by simp only[bf,aHf];omega,rfl,hs⟩
 .have h:=aX h
  refine(aa7 _ n rfl hn w).mono ?_;rintro _ w1 ⟨rfl,hs⟩;refine .inl ⟨_,rfl,?_,hs⟩;unfold Lib.itoa;rw[aG h];have:n.natAbs=n.toNat:=by omega
  rw[this]
end Go.Proofs.YtihaaoehhgmphaaGreatDoor.A
namespace Go.Proofs
open Go.Shelf
def Tryz.lays165_ren:Go.Shelf.Ren:=⟨λ|165=>151|240=>108|241=>209|276=>163|277=>276|n=>n,λ|70=>84|3=>3|0=>0|4=>4|9=>9|20=>20|72=>86|37=>22|164=>230|5=>5|n=>n,λ|n=>n⟩
def Tryz.lays165:Go.Proofs.Lays.n165 aM Tryz.lays165_ren:={
 mixed:=by kernel_rfl
 f165:=aZ Tryz.func151
 f240:=aZ Tryz.func108
 f241:=aZ Tryz.func209
 f276:=aZ Tryz.func163
 f277:=aZ Tryz.func276
 t0:=Tryz.underlying0
 a0:=Tryz.isAgg0
 z0:=Tryz.sizeOf0
 v0:=Tryz.zeroValue0
 t3:=Tryz.underlying3
 a3:=Tryz.isAgg3
 z3:=Tryz.sizeOf3
 v3:=Tryz.zeroValue3
 t4:=Tryz.underlying4
 a4:=Tryz.isAgg4
 z4:=Tryz.sizeOf4
 v4:=Tryz.zeroValue4
 t9:=Tryz.underlying9
 a9:=Tryz.isAgg9
 z9:=Tryz.sizeOf9
 v9:=Tryz.zeroValue9
 t20:=Tryz.underlying20
 a20:=Tryz.isAgg20
 z20:=Tryz.sizeOf20
 v20:=Tryz.zeroValue20
 t37:=Tryz.underlying22
 a37:=Tryz.isAgg22
 z37:=Tryz.sizeOf22
 v37:=Tryz.zeroValue22
 t70:=Tryz.underlying84
 a70:=Tryz.isAgg84
 z70:=Tryz.sizeOf84
 v70:=Tryz.zeroValue84
 t72:=Tryz.underlying86
 a72:=Tryz.isAgg86
 z72:=Tryz.sizeOf86
 v72:=Tryz.zeroValue86
 t164:=Tryz.underlying230
 a164:=Tryz.isAgg230
 z164:=Tryz.sizeOf230
 v164:=Tryz.zeroValue230}
def Tryz.am5:Builder.Extra aM Tryz.lays165_ren:={
 sizeBuilder:=by kernel_rfl
 liesBuilder:=by kernel_rfl
 t5:=Tryz.underlying5
 a5:=Tryz.isAgg5
 z5:=Tryz.sizeOf5
 v5:=Tryz.zeroValue5
 infoByte:=by kernel_rfl
 cellsByte:=by kernel_rfl
 sizeByte:=by kernel_rfl
 neB5:=by decide}
open Go.RowKit in
def Tryz.Builder_Grow_fresh(B b n:Nat)(w:World)(hB:B<=b)(hbk:w.heap[b]?=some (.cells #[.pointer none,.slice none 0 0] 86 (0,0)))(hBw:B<=w.heap.size)(hn:n<=281474976710656):
  aq 151 #[.pointer (some ⟨b,0,none⟩),.int .i64 n] w λe w'=>e=.returned (.tuple #[])/\(Lib.BuilderAt 86 5 B b (.pointer (some ⟨b,0,none⟩)) [] w'/\Below B w w'):=Any.Builder_Grow_fresh Tryz.lays165 Tryz.am5 B b n w hB hbk hBw hn
def Tryz.lays156_ren:Go.Shelf.Ren:=⟨λ|156=>83|165=>151|166=>40|169=>43|240=>108|241=>209|276=>163|277=>276|n=>n,λ|31=>25|9=>9|3=>3|4=>4|0=>0|20=>20|72=>86|76=>89|70=>84|37=>22|75=>88|127=>174|164=>230|5=>5|80=>73|n=>n,λ|n=>n⟩
def Tryz.lays156:Go.Proofs.Lays.n156 aM Tryz.lays156_ren:={
 mixed:=by kernel_rfl
 f156:=aZ Tryz.func83
 f165:=aZ Tryz.func151
 f166:=aZ Tryz.func40
 f169:=aZ Tryz.func43
 f240:=aZ Tryz.func108
 f241:=aZ Tryz.func209
 f276:=aZ Tryz.func163
 f277:=aZ Tryz.func276
 t0:=Tryz.underlying0
 a0:=Tryz.isAgg0
 z0:=Tryz.sizeOf0
 v0:=Tryz.zeroValue0
 t3:=Tryz.underlying3
 a3:=Tryz.isAgg3
 z3:=Tryz.sizeOf3
 v3:=Tryz.zeroValue3
 t4:=Tryz.underlying4
 a4:=Tryz.isAgg4
 z4:=Tryz.sizeOf4
 v4:=Tryz.zeroValue4
 t9:=Tryz.underlying9
 a9:=Tryz.isAgg9
 z9:=Tryz.sizeOf9
 v9:=Tryz.zeroValue9
 t20:=Tryz.underlying20
 a20:=Tryz.isAgg20
 z20:=Tryz.sizeOf20
 v20:=Tryz.zeroValue20
 t31:=Tryz.underlying25
 a31:=Tryz.isAgg25
 z31:=Tryz.sizeOf25
 v31:=Tryz.zeroValue25
 t37:=Tryz.underlying22
 a37:=Tryz.isAgg22
 z37:=Tryz.sizeOf22
 v37:=Tryz.zeroValue22
 t70:=Tryz.underlying84
 a70:=Tryz.isAgg84
 z70:=Tryz.sizeOf84
 v70:=Tryz.zeroValue84
 t72:=Tryz.underlying86
 a72:=Tryz.isAgg86
 z72:=Tryz.sizeOf86
 v72:=Tryz.zeroValue86
 t75:=Tryz.underlying88
 a75:=Tryz.isAgg88
 z75:=Tryz.sizeOf88
 v75:=Tryz.zeroValue88
 t76:=Tryz.underlying89
 a76:=Tryz.isAgg89
 z76:=Tryz.sizeOf89
 v76:=Tryz.zeroValue89
 t127:=Tryz.underlying174
 a127:=Tryz.isAgg174
 z127:=Tryz.sizeOf174
 v127:=Tryz.zeroValue174
 t164:=Tryz.underlying230
 a164:=Tryz.isAgg230
 z164:=Tryz.sizeOf230
 v164:=Tryz.zeroValue230}
def Tryz.Y7:Builder.Extra aM Tryz.lays156_ren:={
 sizeBuilder:=by kernel_rfl
 liesBuilder:=by kernel_rfl
 t5:=Tryz.underlying5
 a5:=Tryz.isAgg5
 z5:=Tryz.sizeOf5
 v5:=Tryz.zeroValue5
 infoByte:=by kernel_rfl
 cellsByte:=by kernel_rfl
 sizeByte:=by kernel_rfl
 neB5:=by decide}
open Go.RowKit in
def Tryz.strings_Join_none(a:Option Addr)(c:Nat)(sep:ByteArray)(w:World):
  aq 83 #[.slice a 0 c,.string sep] w λe w'=>e=.returned (.string ⟨#[]⟩)/\w'=w:=Any.strings_Join_none Tryz.lays156 Tryz.Y7 a c sep w
open Go.RowKit in
def Tryz.strings_Join(bk o c:Nat)(xs:List ByteArray)(sep:ByteArray)(w:World)(hcells:∀(j:Nat) x,xs[j]?=some x->w.cell? ⟨bk,o+j,none⟩=some (.string x))(hbk:bk<w.heap.size)(hN:xs.length<=140737488355328)(hcap:xs.length<=c)(hlen:(Lib.join (xs.map (·.data.toList)) sep.data.toList).length<=140737488355328):
  aq 83 #[.slice (some ⟨bk,o,none⟩) xs.length c,.string sep] w λe w'=>e=.returned (.string ⟨(Lib.join (xs.map (·.data.toList)) sep.data.toList).toArray⟩)/\Below w.heap.size w w':=Any.strings_Join Tryz.lays156 Tryz.Y7 bk o c xs sep w hcells hbk hN hcap hlen
def Tryz.lays161_ren:Go.Shelf.Ren:=⟨λ|161=>71|231=>139|227=>140|233=>141|235=>142|228=>198|197=>164|151=>199|260=>229|152=>268|137=>192|119=>353|224=>282|225=>281|217=>265|266=>342|n=>n,λ|9=>9|4=>4|3=>3|5=>5|117=>216|116=>215|0=>0|124=>219|105=>232|21=>21|119=>344|46=>223|139=>347|138=>346|n=>n,λ|3=>1|4=>2|n=>n⟩
def Tryz.lays161:Go.Proofs.Lays.n161 aM Tryz.lays161_ren:={
 mixed:=by kernel_rfl
 f119:=aZ Tryz.func353
 f137:=aZ Tryz.func192
 f151:=aZ Tryz.func199
 f152:=aZ Tryz.func268
 f161:=aZ Tryz.func71
 f197:=aZ Tryz.func164
 f217:=aZ Tryz.func265
 f224:=aZ Tryz.func282
 f225:=aZ Tryz.func281
 f227:=aZ Tryz.func140
 f228:=aZ Tryz.func198
 f231:=aZ Tryz.func139
 f233:=aZ Tryz.func141
 f235:=aZ Tryz.func142
 f260:=aZ Tryz.func229
 f266:=aZ Tryz.func342
 t0:=Tryz.underlying0
 a0:=Tryz.isAgg0
 z0:=Tryz.sizeOf0
 v0:=Tryz.zeroValue0
 t3:=Tryz.underlying3
 a3:=Tryz.isAgg3
 z3:=Tryz.sizeOf3
 v3:=Tryz.zeroValue3
 t4:=Tryz.underlying4
 a4:=Tryz.isAgg4
 z4:=Tryz.sizeOf4
 v4:=Tryz.zeroValue4
 t5:=Tryz.underlying5
 a5:=Tryz.isAgg5
 z5:=Tryz.sizeOf5
 v5:=Tryz.zeroValue5
 t9:=Tryz.underlying9
 a9:=Tryz.isAgg9
 z9:=Tryz.sizeOf9
 v9:=Tryz.zeroValue9
 t21:=Tryz.underlying21
 a21:=Tryz.isAgg21
 z21:=Tryz.sizeOf21
 v21:=Tryz.zeroValue21
 t46:=Tryz.underlying223
 a46:=Tryz.isAgg223
 z46:=Tryz.sizeOf223
 v46:=Tryz.zeroValue223
 t105:=Tryz.underlying232
 a105:=Tryz.isAgg232
 z105:=Tryz.sizeOf232
 v105:=Tryz.zeroValue232
 t116:=Tryz.underlying215
 a116:=Tryz.isAgg215
 z116:=Tryz.sizeOf215
 t117:=Tryz.underlying216
 a117:=Tryz.isAgg216
 z117:=Tryz.sizeOf216
 v117:=Tryz.zeroValue216
 t119:=Tryz.underlying344
 a119:=Tryz.isAgg344
 z119:=Tryz.sizeOf344
 t124:=Tryz.underlying219
 a124:=Tryz.isAgg219
 z124:=Tryz.sizeOf219
 v124:=Tryz.zeroValue219
 t138:=Tryz.underlying346
 a138:=Tryz.isAgg346
 z138:=Tryz.sizeOf346
 v138:=Tryz.zeroValue346
 t139:=Tryz.underlying347
 a139:=Tryz.isAgg347
 z139:=Tryz.sizeOf347
 v139:=Tryz.zeroValue347
 g3:=by kernel_rfl
 g4:=by kernel_rfl}
def Tryz.lays162_ren:Go.Shelf.Ren:=⟨λ|162=>161|232=>226|227=>140|234=>227|236=>228|228=>198|271=>295|151=>199|120=>365|197=>164|152=>268|260=>229|137=>192|119=>353|224=>282|225=>281|217=>265|266=>342|n=>n,λ|9=>9|4=>4|3=>3|5=>5|117=>216|116=>215|0=>0|124=>219|21=>21|105=>232|46=>223|119=>344|139=>347|138=>346|n=>n,λ|3=>1|4=>2|n=>n⟩
def Tryz.lays162:Go.Proofs.Lays.n162 aM Tryz.lays162_ren:={
 mixed:=by kernel_rfl
 f119:=aZ Tryz.func353
 f120:=aZ Tryz.func365
 f137:=aZ Tryz.func192
 f151:=aZ Tryz.func199
 f152:=aZ Tryz.func268
 f162:=aZ Tryz.func161
 f197:=aZ Tryz.func164
 f217:=aZ Tryz.func265
 f224:=aZ Tryz.func282
 f225:=aZ Tryz.func281
 f227:=aZ Tryz.func140
 f228:=aZ Tryz.func198
 f232:=aZ Tryz.func226
 f234:=aZ Tryz.func227
 f236:=aZ Tryz.func228
 f260:=aZ Tryz.func229
 f266:=aZ Tryz.func342
 f271:=aZ Tryz.func295
 t0:=Tryz.underlying0
 a0:=Tryz.isAgg0
 z0:=Tryz.sizeOf0
 v0:=Tryz.zeroValue0
 t3:=Tryz.underlying3
 a3:=Tryz.isAgg3
 z3:=Tryz.sizeOf3
 v3:=Tryz.zeroValue3
 t4:=Tryz.underlying4
 a4:=Tryz.isAgg4
 z4:=Tryz.sizeOf4
 v4:=Tryz.zeroValue4
 t5:=Tryz.underlying5
 a5:=Tryz.isAgg5
 z5:=Tryz.sizeOf5
 v5:=Tryz.zeroValue5
 t9:=Tryz.underlying9
 a9:=Tryz.isAgg9
 z9:=Tryz.sizeOf9
 v9:=Tryz.zeroValue9
 t21:=Tryz.underlying21
 a21:=Tryz.isAgg21
 z21:=Tryz.sizeOf21
 v21:=Tryz.zeroValue21
 t46:=Tryz.underlying223
 a46:=Tryz.isAgg223
 z46:=Tryz.sizeOf223
 v46:=Tryz.zeroValue223
 t105:=Tryz.underlying232
 a105:=Tryz.isAgg232
 z105:=Tryz.sizeOf232
 v105:=Tryz.zeroValue232
 t116:=Tryz.underlying215
 a116:=Tryz.isAgg215
 z116:=Tryz.sizeOf215
 t117:=Tryz.underlying216
 a117:=Tryz.isAgg216
 z117:=Tryz.sizeOf216
 v117:=Tryz.zeroValue216
 t119:=Tryz.underlying344
 a119:=Tryz.isAgg344
 z119:=Tryz.sizeOf344
 t124:=Tryz.underlying219
 a124:=Tryz.isAgg219
 z124:=Tryz.sizeOf219
 v124:=Tryz.zeroValue219
 t138:=Tryz.underlying346
 a138:=Tryz.isAgg346
 z138:=Tryz.sizeOf346
 v138:=Tryz.zeroValue346
 t139:=Tryz.underlying347
 a139:=Tryz.isAgg347
 z139:=Tryz.sizeOf347
 v139:=Tryz.zeroValue347
 g3:=by kernel_rfl
 g4:=by kernel_rfl}
open Go.RowKit in
def Tryz.strings_TrimRight_one(s:ByteArray)(c:UInt8)(hc:c.toNat<128)(w:World)(hs:s.size<=9223372036854775807):
  aq 161 #[.string s,.string ⟨#[c]⟩] w λe w'=>e=.returned (.string ⟨(Lib.trimRightB s.data.toList c).toArray⟩)/\w'=w:=Any.strings_TrimRight_one Tryz.lays162 s c hc w hs
def Tryz.lays160_ren:Go.Shelf.Ren:=⟨λ|160=>273|232=>226|231=>139|227=>140|234=>227|233=>141|236=>228|235=>142|228=>198|271=>295|151=>199|197=>164|120=>365|152=>268|260=>229|137=>192|119=>353|224=>282|225=>281|217=>265|266=>342|n=>n,λ|9=>9|4=>4|3=>3|5=>5|117=>216|116=>215|0=>0|124=>219|21=>21|105=>232|46=>223|119=>344|139=>347|138=>346|n=>n,λ|3=>1|4=>2|n=>n⟩
def Tryz.lays160:Go.Proofs.Lays.n160 aM Tryz.lays160_ren:={
 mixed:=by kernel_rfl
 f119:=aZ Tryz.func353
 f120:=aZ Tryz.func365
 f137:=aZ Tryz.func192
 f151:=aZ Tryz.func199
 f152:=aZ Tryz.func268
 f160:=aZ Tryz.func273
 f197:=aZ Tryz.func164
 f217:=aZ Tryz.func265
 f224:=aZ Tryz.func282
 f225:=aZ Tryz.func281
 f227:=aZ Tryz.func140
 f228:=aZ Tryz.func198
 f231:=aZ Tryz.func139
 f232:=aZ Tryz.func226
 f233:=aZ Tryz.func141
 f234:=aZ Tryz.func227
 f235:=aZ Tryz.func142
 f236:=aZ Tryz.func228
 f260:=aZ Tryz.func229
 f266:=aZ Tryz.func342
 f271:=aZ Tryz.func295
 t0:=Tryz.underlying0
 a0:=Tryz.isAgg0
 z0:=Tryz.sizeOf0
 v0:=Tryz.zeroValue0
 t3:=Tryz.underlying3
 a3:=Tryz.isAgg3
 z3:=Tryz.sizeOf3
 v3:=Tryz.zeroValue3
 t4:=Tryz.underlying4
 a4:=Tryz.isAgg4
 z4:=Tryz.sizeOf4
 v4:=Tryz.zeroValue4
 t5:=Tryz.underlying5
 a5:=Tryz.isAgg5
 z5:=Tryz.sizeOf5
 v5:=Tryz.zeroValue5
 t9:=Tryz.underlying9
 a9:=Tryz.isAgg9
 z9:=Tryz.sizeOf9
 v9:=Tryz.zeroValue9
 t21:=Tryz.underlying21
 a21:=Tryz.isAgg21
 z21:=Tryz.sizeOf21
 v21:=Tryz.zeroValue21
 t46:=Tryz.underlying223
 a46:=Tryz.isAgg223
 z46:=Tryz.sizeOf223
 v46:=Tryz.zeroValue223
 t105:=Tryz.underlying232
 a105:=Tryz.isAgg232
 z105:=Tryz.sizeOf232
 v105:=Tryz.zeroValue232
 t116:=Tryz.underlying215
 a116:=Tryz.isAgg215
 z116:=Tryz.sizeOf215
 t117:=Tryz.underlying216
 a117:=Tryz.isAgg216
 z117:=Tryz.sizeOf216
 v117:=Tryz.zeroValue216
 t119:=Tryz.underlying344
 a119:=Tryz.isAgg344
 z119:=Tryz.sizeOf344
 t124:=Tryz.underlying219
 a124:=Tryz.isAgg219
 z124:=Tryz.sizeOf219
 v124:=Tryz.zeroValue219
 t138:=Tryz.underlying346
 a138:=Tryz.isAgg346
 z138:=Tryz.sizeOf346
 v138:=Tryz.zeroValue346
 t139:=Tryz.underlying347
 a139:=Tryz.isAgg347
 z139:=Tryz.sizeOf347
 v139:=Tryz.zeroValue347
 g3:=by kernel_rfl
 g4:=by kernel_rfl}
def Tryz.lays125_ren:Go.Shelf.Ren:=⟨λ|125=>158|128=>221|129=>222|n=>n,λ|46=>223|3=>3|51=>279|53=>189|4=>4|5=>5|9=>9|n=>n,λ|n=>n⟩
def Tryz.lays125:Go.Proofs.Lays.n125 aM Tryz.lays125_ren:={
 mixed:=by kernel_rfl
 f125:=aZ Tryz.func158
 f128:=aZ Tryz.func221
 f129:=aZ Tryz.func222
 t3:=Tryz.underlying3
 a3:=Tryz.isAgg3
 z3:=Tryz.sizeOf3
 v3:=Tryz.zeroValue3
 t4:=Tryz.underlying4
 a4:=Tryz.isAgg4
 z4:=Tryz.sizeOf4
 v4:=Tryz.zeroValue4
 t5:=Tryz.underlying5
 a5:=Tryz.isAgg5
 z5:=Tryz.sizeOf5
 v5:=Tryz.zeroValue5
 t9:=Tryz.underlying9
 a9:=Tryz.isAgg9
 z9:=Tryz.sizeOf9
 v9:=Tryz.zeroValue9
 t46:=Tryz.underlying223
 a46:=Tryz.isAgg223
 z46:=Tryz.sizeOf223
 v46:=Tryz.zeroValue223
 t51:=Tryz.underlying279
 a51:=Tryz.isAgg279
 z51:=Tryz.sizeOf279
 v51:=Tryz.zeroValue279
 t53:=Tryz.underlying189
 a53:=Tryz.isAgg189
 z53:=Tryz.sizeOf189
 v53:=Tryz.zeroValue189}
def Tryz.bits_Len(x:Int)(w:World)(h0:0<=x)(h1:x<=18446744073709551615):
  aq 158 #[.int .u64 x] w λe w'=>e=.returned (.int .i64 (Lib.bitLen x.toNat))/\w'=w:=Any.bits_Len Tryz.lays125 x w h0 h1
def Tryz.lays106_ren:Go.Shelf.Ren:=⟨λ|106=>272|213=>354|265=>428|n=>n,λ|9=>9|3=>3|n=>n,λ|n=>n⟩
def Tryz.lays106:Go.Proofs.Lays.n106 aM Tryz.lays106_ren:={
 mixed:=by kernel_rfl
 f106:=aZ Tryz.func272
 f213:=aZ Tryz.func354
 f265:=aZ Tryz.func428
 t3:=Tryz.underlying3
 a3:=Tryz.isAgg3
 z3:=Tryz.sizeOf3
 v3:=Tryz.zeroValue3
 t9:=Tryz.underlying9
 a9:=Tryz.isAgg9
 z9:=Tryz.sizeOf9
 v9:=Tryz.zeroValue9}
open Go.RowKit in
def Tryz.strings_Compare(a b:ByteArray)(w:World):
  aq 272 #[.string a,.string b] w λe w'=>e=.returned (.int .i64 (Lib.compareBytes a.data.toList b.data.toList))/\w'=w:=Any.strings_Compare Tryz.lays106 a b w
def Tryz.lays137_ren:Go.Shelf.Ren:=⟨λ|137=>192|217=>265|266=>342|n=>n,λ|9=>9|5=>5|3=>3|n=>n,λ|n=>n⟩
def Tryz.lays137:Go.Proofs.Lays.n137 aM Tryz.lays137_ren:={
 mixed:=by kernel_rfl
 f137:=aZ Tryz.func192
 f217:=aZ Tryz.func265
 f266:=aZ Tryz.func342
 t3:=Tryz.underlying3
 a3:=Tryz.isAgg3
 z3:=Tryz.sizeOf3
 v3:=Tryz.zeroValue3
 t5:=Tryz.underlying5
 a5:=Tryz.isAgg5
 z5:=Tryz.sizeOf5
 v5:=Tryz.zeroValue5
 t9:=Tryz.underlying9
 a9:=Tryz.isAgg9
 z9:=Tryz.sizeOf9
 v9:=Tryz.zeroValue9}
open Go.RowKit in
def Tryz.strings_IndexByte(s:ByteArray)(c:Int)(w:World):
  aq 192 #[.string s,.int .u8 c] w λe w'=>e=.returned (.int .i64 (Lib.indexByte s.data.toList c.toNat.toUInt8))/\w'=w:=Any.strings_IndexByte Tryz.lays137 s c w
def Tryz.lays103_ren:Go.Shelf.Ren:=⟨λ|103=>170|210=>233|206=>143|n=>n,λ|9=>9|4=>4|24=>179|3=>3|n=>n,λ|n=>n⟩
def Tryz.lays103:Go.Proofs.Lays.n103 aM Tryz.lays103_ren:={
 mixed:=by kernel_rfl
 f103:=aZ Tryz.func170
 f206:=aZ Tryz.func143
 f210:=aZ Tryz.func233
 t3:=Tryz.underlying3
 a3:=Tryz.isAgg3
 z3:=Tryz.sizeOf3
 v3:=Tryz.zeroValue3
 t4:=Tryz.underlying4
 a4:=Tryz.isAgg4
 z4:=Tryz.sizeOf4
 v4:=Tryz.zeroValue4
 t9:=Tryz.underlying9
 a9:=Tryz.isAgg9
 z9:=Tryz.sizeOf9
 v9:=Tryz.zeroValue9
 t24:=Tryz.underlying179
 a24:=Tryz.isAgg179
 z24:=Tryz.sizeOf179
 v24:=Tryz.zeroValue179}
open Go.RowKit in
def Tryz.strings_CutPrefix(s p:ByteArray)(w:World):
  aq 170 #[.string s,.string p] w λe w'=>e=.returned (.tuple #[.string ⟨(Lib.trimPrefix s.data.toList p.data.toList).toArray⟩,.bool (Lib.hasPrefix s.data.toList p.data.toList)])/\w'=w:=Any.strings_CutPrefix Tryz.lays103 s p w
def Tryz.ao5:Go.Shelf.Ren:=⟨λ|171=>88|243=>152|246=>210|283=>277|284=>278|285=>279|286=>280|129=>222|317=>356|318=>357|319=>358|320=>359|337=>429|338=>430|n=>n,λ|3=>3|9=>9|2=>2|4=>4|171=>330|0=>0|53=>189|37=>22|5=>5|173=>332|212=>391|51=>279|20=>20|213=>392|46=>223|232=>482|233=>438|n=>n,λ|17=>3|18=>6|19=>7|n=>n⟩
def Tryz.auO:Go.Proofs.LaysM.n171 aM Tryz.ao5:={
 mixed:=by kernel_rfl
 f129:=aZ Tryz.func222
 f171:=aZ Tryz.func88
 f243:=aZ Tryz.func152
 f246:=aZ Tryz.func210
 f283:=aZ Tryz.func277
 f284:=aZ Tryz.func278
 f285:=aZ Tryz.func279
 f286:=aZ Tryz.func280
 f317:=aZ Tryz.func356
 f318:=aZ Tryz.func357
 f319:=aZ Tryz.func358
 f320:=aZ Tryz.func359
 f337:=aZ Tryz.func429
 f338:=aZ Tryz.func430
 t0:=Tryz.underlying0
 a0:=Tryz.isAgg0
 z0:=Tryz.sizeOf0
 v0:=Tryz.zeroValue0
 t2:=Tryz.underlying2
 a2:=Tryz.isAgg2
 z2:=Tryz.sizeOf2
 v2:=Tryz.zeroValue2
 t3:=Tryz.underlying3
 a3:=Tryz.isAgg3
 z3:=Tryz.sizeOf3
 v3:=Tryz.zeroValue3
 t4:=Tryz.underlying4
 a4:=Tryz.isAgg4
 z4:=Tryz.sizeOf4
 v4:=Tryz.zeroValue4
 t5:=Tryz.underlying5
 a5:=Tryz.isAgg5
 z5:=Tryz.sizeOf5
 v5:=Tryz.zeroValue5
 t9:=Tryz.underlying9
 a9:=Tryz.isAgg9
 z9:=Tryz.sizeOf9
 v9:=Tryz.zeroValue9
 t20:=Tryz.underlying20
 a20:=Tryz.isAgg20
 z20:=Tryz.sizeOf20
 v20:=Tryz.zeroValue20
 t37:=Tryz.underlying22
 a37:=Tryz.isAgg22
 z37:=Tryz.sizeOf22
 v37:=Tryz.zeroValue22
 t46:=Tryz.underlying223
 a46:=Tryz.isAgg223
 z46:=Tryz.sizeOf223
 v46:=Tryz.zeroValue223
 t51:=Tryz.underlying279
 a51:=Tryz.isAgg279
 z51:=Tryz.sizeOf279
 v51:=Tryz.zeroValue279
 t53:=Tryz.underlying189
 a53:=Tryz.isAgg189
 z53:=Tryz.sizeOf189
 v53:=Tryz.zeroValue189
 t171:=Tryz.underlying330
 a171:=Tryz.isAgg330
 z171:=Tryz.sizeOf330
 v171:=Tryz.zeroValue330
 t173:=Tryz.underlying332
 a173:=Tryz.isAgg332
 z173:=Tryz.sizeOf332
 v173:=Tryz.zeroValue332
 t212:=Tryz.underlying391
 a212:=Tryz.isAgg391
 z212:=Tryz.sizeOf391
 v212:=Tryz.zeroValue391
 t213:=Tryz.underlying392
 a213:=Tryz.isAgg392
 z213:=Tryz.sizeOf392
 t232:=Tryz.underlying482
 a232:=Tryz.isAgg482
 z232:=Tryz.sizeOf482
 v232:=Tryz.zeroValue482
 t233:=Tryz.underlying438
 a233:=Tryz.isAgg438
 z233:=Tryz.sizeOf438
 v233:=Tryz.zeroValue438
 g17:=by kernel_rfl
 g18:=by kernel_rfl
 g19:=by kernel_rfl
 i0:=by kernel_rfl
 i2:=by kernel_rfl
 i3:=by kernel_rfl
 i4:=by kernel_rfl
 i5:=by kernel_rfl
 i9:=by kernel_rfl
 i20:=by kernel_rfl
 i37:=by kernel_rfl
 i46:=by kernel_rfl
 i51:=by kernel_rfl
 i53:=by kernel_rfl
 i171:=by kernel_rfl
 i173:=by kernel_rfl
 i212:=by kernel_rfl
 i232:=by kernel_rfl
 i233:=by kernel_rfl
 m17:=by kernel_rfl
 m18:=by kernel_rfl
 m19:=by kernel_rfl}
open Go.RowKit Go.Sort Go.Lib in
def Tryz.strconv_Itoa(n:Int)(h0: -9223372036854775808<=n)(h1:n<=9223372036854775807)(w:World)(htab:Lib.TabIs aM w "internal/strconv.uint64pow10" .u64 Lib.pow10Tab):
  aq 88 #[.int .i64 n] w λe w'=>e=.returned (.string ⟨(Lib.itoa n).toArray⟩)/\∃k os,w'=grow (w.drewN k) os:=Any.strconv_Itoa Tryz.auO n h0 h1 w htab
def Tryz.lays143_ren:Go.Shelf.Ren:=⟨λ|143=>155|219=>211|217=>265|225=>281|224=>282|267=>283|266=>342|314=>360|n=>n,λ|9=>9|3=>3|4=>4|5=>5|46=>223|146=>394|51=>279|n=>n,λ|1=>0|n=>n⟩
def Tryz.lays143:Go.Proofs.Lays.n143 aM Tryz.lays143_ren:={
 mixed:=by kernel_rfl
 f143:=aZ Tryz.func155
 f217:=aZ Tryz.func265
 f219:=aZ Tryz.func211
 f224:=aZ Tryz.func282
 f225:=aZ Tryz.func281
 f266:=aZ Tryz.func342
 f267:=aZ Tryz.func283
 f314:=aZ Tryz.func360
 t3:=Tryz.underlying3
 a3:=Tryz.isAgg3
 z3:=Tryz.sizeOf3
 v3:=Tryz.zeroValue3
 t4:=Tryz.underlying4
 a4:=Tryz.isAgg4
 z4:=Tryz.sizeOf4
 v4:=Tryz.zeroValue4
 t5:=Tryz.underlying5
 a5:=Tryz.isAgg5
 z5:=Tryz.sizeOf5
 v5:=Tryz.zeroValue5
 t9:=Tryz.underlying9
 a9:=Tryz.isAgg9
 z9:=Tryz.sizeOf9
 v9:=Tryz.zeroValue9
 t46:=Tryz.underlying223
 a46:=Tryz.isAgg223
 z46:=Tryz.sizeOf223
 v46:=Tryz.zeroValue223
 t51:=Tryz.underlying279
 a51:=Tryz.isAgg279
 z51:=Tryz.sizeOf279
 v51:=Tryz.zeroValue279
 t146:=Tryz.underlying394
 a146:=Tryz.isAgg394
 z146:=Tryz.sizeOf394
 v146:=Tryz.zeroValue394
 g1:=by kernel_rfl}
open Go.RowKit Go.Lib in
def Tryz.strings_Index_one(s:ByteArray)(c:UInt8)(w:World):
  aq 155 #[.string s,.string ⟨#[c]⟩] w λe w'=>e=.returned (.int .i64 (Lib.indexByte s.data.toList c))/\w'=w:=Any.strings_Index_one Tryz.lays143 s c w
def Tryz.lays144_ren:Go.Shelf.Ren:=⟨λ|144=>104|143=>155|219=>211|217=>265|225=>281|224=>282|267=>283|266=>342|314=>360|n=>n,λ|9=>9|4=>4|3=>3|5=>5|46=>223|146=>394|51=>279|n=>n,λ|1=>0|n=>n⟩
def Tryz.lays144:Go.Proofs.Lays.n144 aM Tryz.lays144_ren:={
 mixed:=by kernel_rfl
 f143:=aZ Tryz.func155
 f144:=aZ Tryz.func104
 f217:=aZ Tryz.func265
 f219:=aZ Tryz.func211
 f224:=aZ Tryz.func282
 f225:=aZ Tryz.func281
 f266:=aZ Tryz.func342
 f267:=aZ Tryz.func283
 f314:=aZ Tryz.func360
 t3:=Tryz.underlying3
 a3:=Tryz.isAgg3
 z3:=Tryz.sizeOf3
 v3:=Tryz.zeroValue3
 t4:=Tryz.underlying4
 a4:=Tryz.isAgg4
 z4:=Tryz.sizeOf4
 v4:=Tryz.zeroValue4
 t5:=Tryz.underlying5
 a5:=Tryz.isAgg5
 z5:=Tryz.sizeOf5
 v5:=Tryz.zeroValue5
 t9:=Tryz.underlying9
 a9:=Tryz.isAgg9
 z9:=Tryz.sizeOf9
 v9:=Tryz.zeroValue9
 t46:=Tryz.underlying223
 a46:=Tryz.isAgg223
 z46:=Tryz.sizeOf223
 v46:=Tryz.zeroValue223
 t51:=Tryz.underlying279
 a51:=Tryz.isAgg279
 z51:=Tryz.sizeOf279
 v51:=Tryz.zeroValue279
 t146:=Tryz.underlying394
 a146:=Tryz.isAgg394
 z146:=Tryz.sizeOf394
 v146:=Tryz.zeroValue394
 g1:=by kernel_rfl}
open Go.RowKit Go.Lib in
def Tryz.strings_Contains_one(s:ByteArray)(c:UInt8)(w:World):
  aq 104 #[.string s,.string ⟨#[c]⟩] w λe w'=>e=.returned (.bool (decide (0<=Lib.indexByte s.data.toList c)))/\w'=w:=Any.strings_Contains_one Tryz.lays144 s c w
def Tryz.lays138_ren:Go.Shelf.Ren:=⟨λ|138=>89|195=>153|218=>154|143=>155|219=>211|217=>265|225=>281|224=>282|267=>283|266=>342|314=>360|n=>n,λ|9=>9|3=>3|4=>4|5=>5|0=>0|46=>223|146=>394|51=>279|n=>n,λ|1=>0|n=>n⟩
def Tryz.lays138:Go.Proofs.Lays.n138 aM Tryz.lays138_ren:={
 mixed:=by kernel_rfl
 f138:=aZ Tryz.func89
 f143:=aZ Tryz.func155
 f195:=aZ Tryz.func153
 f217:=aZ Tryz.func265
 f218:=aZ Tryz.func154
 f219:=aZ Tryz.func211
 f224:=aZ Tryz.func282
 f225:=aZ Tryz.func281
 f266:=aZ Tryz.func342
 f267:=aZ Tryz.func283
 f314:=aZ Tryz.func360
 t0:=Tryz.underlying0
 a0:=Tryz.isAgg0
 z0:=Tryz.sizeOf0
 v0:=Tryz.zeroValue0
 t3:=Tryz.underlying3
 a3:=Tryz.isAgg3
 z3:=Tryz.sizeOf3
 v3:=Tryz.zeroValue3
 t4:=Tryz.underlying4
 a4:=Tryz.isAgg4
 z4:=Tryz.sizeOf4
 v4:=Tryz.zeroValue4
 t5:=Tryz.underlying5
 a5:=Tryz.isAgg5
 z5:=Tryz.sizeOf5
 v5:=Tryz.zeroValue5
 t9:=Tryz.underlying9
 a9:=Tryz.isAgg9
 z9:=Tryz.sizeOf9
 v9:=Tryz.zeroValue9
 t46:=Tryz.underlying223
 a46:=Tryz.isAgg223
 z46:=Tryz.sizeOf223
 v46:=Tryz.zeroValue223
 t51:=Tryz.underlying279
 a51:=Tryz.isAgg279
 z51:=Tryz.sizeOf279
 v51:=Tryz.zeroValue279
 t146:=Tryz.underlying394
 a146:=Tryz.isAgg394
 z146:=Tryz.sizeOf394
 v146:=Tryz.zeroValue394
 g1:=by kernel_rfl}
open Go.RowKit Go.Lib in
def Tryz.strings_Count_one(s:ByteArray)(c:UInt8)(w:World):
  aq 89 #[.string s,.string ⟨#[c]⟩] w λe w'=>e=.returned (.int .i64 (Lib.countByte s.data.toList c))/\w'=w:=Any.strings_Count_one Tryz.lays138 s c w
def Tryz.lays190_ren:Go.Shelf.Ren:=⟨λ|190=>94|125=>158|258=>157|128=>221|129=>222|302=>212|303=>213|304=>214|305=>215|306=>216|307=>217|308=>218|309=>219|310=>220|333=>284|329=>285|330=>286|334=>287|335=>288|336=>289|344=>361|n=>n,λ|31=>25|9=>9|3=>3|46=>223|0=>0|51=>279|53=>189|4=>4|183=>273|182=>272|131=>155|5=>5|218=>334|222=>338|228=>396|229=>397|n=>n,λ|n=>n⟩
def Tryz.lays190:Go.Proofs.Lays.n190 aM Tryz.lays190_ren:={
 mixed:=by kernel_rfl
 f125:=aZ Tryz.func158
 f128:=aZ Tryz.func221
 f129:=aZ Tryz.func222
 f190:=aZ Tryz.func94
 f258:=aZ Tryz.func157
 f302:=aZ Tryz.func212
 f303:=aZ Tryz.func213
 f304:=aZ Tryz.func214
 f305:=aZ Tryz.func215
 f306:=aZ Tryz.func216
 f307:=aZ Tryz.func217
 f308:=aZ Tryz.func218
 f309:=aZ Tryz.func219
 f310:=aZ Tryz.func220
 f329:=aZ Tryz.func285
 f330:=aZ Tryz.func286
 f333:=aZ Tryz.func284
 f334:=aZ Tryz.func287
 f335:=aZ Tryz.func288
 f336:=aZ Tryz.func289
 f344:=aZ Tryz.func361
 t0:=Tryz.underlying0
 a0:=Tryz.isAgg0
 z0:=Tryz.sizeOf0
 v0:=Tryz.zeroValue0
 t3:=Tryz.underlying3
 a3:=Tryz.isAgg3
 z3:=Tryz.sizeOf3
 v3:=Tryz.zeroValue3
 t4:=Tryz.underlying4
 a4:=Tryz.isAgg4
 z4:=Tryz.sizeOf4
 v4:=Tryz.zeroValue4
 t5:=Tryz.underlying5
 a5:=Tryz.isAgg5
 z5:=Tryz.sizeOf5
 v5:=Tryz.zeroValue5
 t9:=Tryz.underlying9
 a9:=Tryz.isAgg9
 z9:=Tryz.sizeOf9
 v9:=Tryz.zeroValue9
 t31:=Tryz.underlying25
 a31:=Tryz.isAgg25
 z31:=Tryz.sizeOf25
 v31:=Tryz.zeroValue25
 t46:=Tryz.underlying223
 a46:=Tryz.isAgg223
 z46:=Tryz.sizeOf223
 v46:=Tryz.zeroValue223
 t51:=Tryz.underlying279
 a51:=Tryz.isAgg279
 z51:=Tryz.sizeOf279
 v51:=Tryz.zeroValue279
 t53:=Tryz.underlying189
 a53:=Tryz.isAgg189
 z53:=Tryz.sizeOf189
 v53:=Tryz.zeroValue189
 t131:=Tryz.underlying155
 a131:=Tryz.isAgg155
 z131:=Tryz.sizeOf155
 v131:=Tryz.zeroValue155
 t182:=Tryz.underlying272
 a182:=Tryz.isAgg272
 z182:=Tryz.sizeOf272
 v182:=Tryz.zeroValue272
 t183:=Tryz.underlying273
 a183:=Tryz.isAgg273
 z183:=Tryz.sizeOf273
 v183:=Tryz.zeroValue273
 t218:=Tryz.underlying334
 a218:=Tryz.isAgg334
 z218:=Tryz.sizeOf334
 v218:=Tryz.zeroValue334
 t222:=Tryz.underlying338
 a222:=Tryz.isAgg338
 z222:=Tryz.sizeOf338
 v222:=Tryz.zeroValue338
 t228:=Tryz.underlying396
 a228:=Tryz.isAgg396
 z228:=Tryz.sizeOf396
 v228:=Tryz.zeroValue396
 t229:=Tryz.underlying397
 a229:=Tryz.isAgg397
 z229:=Tryz.sizeOf397
 v229:=Tryz.zeroValue397}
open Go.Sort Go.RowKit in
def Tryz.slices_Sort_string(blk off cap:Nat)(ss:List (List UInt8))(w:World)(hH:Holds encStr w blk off ss.toArray)(hblk:blk<w.heap.size)(hsz:ss.length<4611686018427387904):
  aq 94 #[.slice (some ⟨blk,off,none⟩) ss.length cap] w λe w'=>
   e=.returned (.tuple #[])/\∃n os,w'=grow (putRow encStr (Sort.ahead w n) blk off (ss.mergeSort λx y=>decide (x<=y)).toArray) os:=Any.slices_Sort_string Tryz.lays190 blk off cap ss w hH hblk hsz
def Tryz.lays149_ren:Go.Shelf.Ren:=⟨λ|149=>107|222=>162|n=>n,λ|9=>9|5=>5|3=>3|4=>4|n=>n,λ|n=>n⟩
def Tryz.lays149:Go.Proofs.Lays.n149 aM Tryz.lays149_ren:={
 mixed:=by kernel_rfl
 f149:=aZ Tryz.func107
 f222:=aZ Tryz.func162
 t3:=Tryz.underlying3
 a3:=Tryz.isAgg3
 z3:=Tryz.sizeOf3
 v3:=Tryz.zeroValue3
 t4:=Tryz.underlying4
 a4:=Tryz.isAgg4
 z4:=Tryz.sizeOf4
 v4:=Tryz.zeroValue4
 t5:=Tryz.underlying5
 a5:=Tryz.isAgg5
 z5:=Tryz.sizeOf5
 v5:=Tryz.zeroValue5
 t9:=Tryz.underlying9
 a9:=Tryz.isAgg9
 z9:=Tryz.sizeOf9
 v9:=Tryz.zeroValue9}
open Go.RowKit Go.Lib in
def Tryz.strings_LastIndexByte(s:ByteArray)(c:Int)(hs:s.size<4611686018427387904)(w:World):
  aq 107 #[.string s,.int .u8 c] w λe w'=>e=.returned (.int .i64 (Lib.lastIndexByte s c))/\w'=w:=Any.strings_LastIndexByte Tryz.lays149 s c hs w
def Tryz.lays206_ren:Go.Shelf.Ren:=⟨λ|206=>143|n=>n,λ|9=>9|4=>4|3=>3|n=>n,λ|n=>n⟩
def Tryz.lays206:Go.Proofs.Lays.n206 aM Tryz.lays206_ren:={
 mixed:=by kernel_rfl
 f206:=aZ Tryz.func143
 t3:=Tryz.underlying3
 a3:=Tryz.isAgg3
 z3:=Tryz.sizeOf3
 v3:=Tryz.zeroValue3
 t4:=Tryz.underlying4
 a4:=Tryz.isAgg4
 z4:=Tryz.sizeOf4
 v4:=Tryz.zeroValue4
 t9:=Tryz.underlying9
 a9:=Tryz.isAgg9
 z9:=Tryz.sizeOf9
 v9:=Tryz.zeroValue9}
open Go.RowKit Go.Lib in
def Tryz.stringslite_HasPrefix(s p:ByteArray)(w:World):
  aq 143 #[.string s,.string p] w λe w'=>e=.returned (.bool (Lib.hasPrefix s.data.toList p.data.toList))/\w'=w:=Any.stringslite_HasPrefix Tryz.lays206 s p w
def Tryz.lays99_ren:Go.Shelf.Ren:=⟨λ|99=>73|206=>143|n=>n,λ|9=>9|4=>4|3=>3|n=>n,λ|n=>n⟩
def Tryz.lays99:Go.Proofs.Lays.n99 aM Tryz.lays99_ren:={
 mixed:=by kernel_rfl
 f99:=aZ Tryz.func73
 f206:=aZ Tryz.func143
 t3:=Tryz.underlying3
 a3:=Tryz.isAgg3
 z3:=Tryz.sizeOf3
 v3:=Tryz.zeroValue3
 t4:=Tryz.underlying4
 a4:=Tryz.isAgg4
 z4:=Tryz.sizeOf4
 v4:=Tryz.zeroValue4
 t9:=Tryz.underlying9
 a9:=Tryz.isAgg9
 z9:=Tryz.sizeOf9
 v9:=Tryz.zeroValue9}
open Go.RowKit Go.Lib in
def Tryz.strings_HasPrefix(s p:ByteArray)(w:World):
  aq 73 #[.string s,.string p] w λe w'=>e=.returned (.bool (Lib.hasPrefix s.data.toList p.data.toList))/\w'=w:=Any.strings_HasPrefix Tryz.lays99 s p w
def Tryz.lays100_ren:Go.Shelf.Ren:=⟨λ|100=>250|207=>202|n=>n,λ|9=>9|4=>4|3=>3|n=>n,λ|n=>n⟩
def Tryz.lays100:Go.Proofs.Lays.n100 aM Tryz.lays100_ren:={
 mixed:=by kernel_rfl
 f100:=aZ Tryz.func250
 f207:=aZ Tryz.func202
 t3:=Tryz.underlying3
 a3:=Tryz.isAgg3
 z3:=Tryz.sizeOf3
 v3:=Tryz.zeroValue3
 t4:=Tryz.underlying4
 a4:=Tryz.isAgg4
 z4:=Tryz.sizeOf4
 v4:=Tryz.zeroValue4
 t9:=Tryz.underlying9
 a9:=Tryz.isAgg9
 z9:=Tryz.sizeOf9
 v9:=Tryz.zeroValue9}
open Go.RowKit Go.Lib in
def Tryz.strings_HasSuffix(s p:ByteArray)(w:World)(hs:s.size<=9223372036854775807):
  aq 250 #[.string s,.string p] w λe w'=>e=.returned (.bool (Lib.hasSuffix s.data.toList p.data.toList))/\w'=w:=Any.strings_HasSuffix Tryz.lays100 s p w hs
def Tryz.lays102_ren:Go.Shelf.Ren:=⟨λ|102=>75|209=>146|207=>202|n=>n,λ|9=>9|4=>4|3=>3|n=>n,λ|n=>n⟩
def Tryz.lays102:Go.Proofs.Lays.n102 aM Tryz.lays102_ren:={
 mixed:=by kernel_rfl
 f102:=aZ Tryz.func75
 f207:=aZ Tryz.func202
 f209:=aZ Tryz.func146
 t3:=Tryz.underlying3
 a3:=Tryz.isAgg3
 z3:=Tryz.sizeOf3
 v3:=Tryz.zeroValue3
 t4:=Tryz.underlying4
 a4:=Tryz.isAgg4
 z4:=Tryz.sizeOf4
 v4:=Tryz.zeroValue4
 t9:=Tryz.underlying9
 a9:=Tryz.isAgg9
 z9:=Tryz.sizeOf9
 v9:=Tryz.zeroValue9}
open Go.RowKit Go.Lib in
def Tryz.strings_TrimSuffix(s p:ByteArray)(w:World)(hs:s.size<=9223372036854775807):
  aq 75 #[.string s,.string p] w λe w'=>e=.returned (.string ⟨(Lib.trimSuffix s.data.toList p.data.toList).toArray⟩)/\w'=w:=Any.strings_TrimSuffix Tryz.lays102 s p w hs
def Tryz.lays146_ren:Go.Shelf.Ren:=⟨λ|146=>100|221=>160|268=>225|138=>89|143=>155|195=>153|197=>164|218=>154|219=>211|260=>229|217=>265|225=>281|224=>282|267=>283|266=>342|314=>360|n=>n,λ|9=>9|31=>25|3=>3|4=>4|0=>0|105=>232|21=>21|5=>5|46=>223|119=>344|139=>347|138=>346|146=>394|51=>279|n=>n,λ|1=>0|3=>1|4=>2|n=>n⟩
def Tryz.lays146:Go.Proofs.Lays.n146 aM Tryz.lays146_ren:={
 mixed:=by kernel_rfl
 f138:=aZ Tryz.func89
 f143:=aZ Tryz.func155
 f146:=aZ Tryz.func100
 f195:=aZ Tryz.func153
 f197:=aZ Tryz.func164
 f217:=aZ Tryz.func265
 f218:=aZ Tryz.func154
 f219:=aZ Tryz.func211
 f221:=aZ Tryz.func160
 f224:=aZ Tryz.func282
 f225:=aZ Tryz.func281
 f260:=aZ Tryz.func229
 f266:=aZ Tryz.func342
 f267:=aZ Tryz.func283
 f268:=aZ Tryz.func225
 f314:=aZ Tryz.func360
 t0:=Tryz.underlying0
 a0:=Tryz.isAgg0
 z0:=Tryz.sizeOf0
 v0:=Tryz.zeroValue0
 t3:=Tryz.underlying3
 a3:=Tryz.isAgg3
 z3:=Tryz.sizeOf3
 v3:=Tryz.zeroValue3
 t4:=Tryz.underlying4
 a4:=Tryz.isAgg4
 z4:=Tryz.sizeOf4
 v4:=Tryz.zeroValue4
 t5:=Tryz.underlying5
 a5:=Tryz.isAgg5
 z5:=Tryz.sizeOf5
 v5:=Tryz.zeroValue5
 t9:=Tryz.underlying9
 a9:=Tryz.isAgg9
 z9:=Tryz.sizeOf9
 v9:=Tryz.zeroValue9
 t21:=Tryz.underlying21
 a21:=Tryz.isAgg21
 z21:=Tryz.sizeOf21
 v21:=Tryz.zeroValue21
 t31:=Tryz.underlying25
 a31:=Tryz.isAgg25
 z31:=Tryz.sizeOf25
 v31:=Tryz.zeroValue25
 t46:=Tryz.underlying223
 a46:=Tryz.isAgg223
 z46:=Tryz.sizeOf223
 v46:=Tryz.zeroValue223
 t51:=Tryz.underlying279
 a51:=Tryz.isAgg279
 z51:=Tryz.sizeOf279
 v51:=Tryz.zeroValue279
 t105:=Tryz.underlying232
 a105:=Tryz.isAgg232
 z105:=Tryz.sizeOf232
 v105:=Tryz.zeroValue232
 t119:=Tryz.underlying344
 a119:=Tryz.isAgg344
 z119:=Tryz.sizeOf344
 t138:=Tryz.underlying346
 a138:=Tryz.isAgg346
 z138:=Tryz.sizeOf346
 v138:=Tryz.zeroValue346
 t139:=Tryz.underlying347
 a139:=Tryz.isAgg347
 z139:=Tryz.sizeOf347
 v139:=Tryz.zeroValue347
 t146:=Tryz.underlying394
 a146:=Tryz.isAgg394
 z146:=Tryz.sizeOf394
 v146:=Tryz.zeroValue394
 g1:=by kernel_rfl
 g3:=by kernel_rfl
 g4:=by kernel_rfl}
open Go.RowKit Go.Lib in
def Tryz.strings_Split(s sep:ByteArray)(m:Int)(w:World)(hs:s.size<4294967281)(hm:w.cell? ⟨0,0,none⟩=some (.int .i64 m))(h1:1<=sep.size):
  aq 100 #[.string s,.string sep] w λe w'=>
   e=.returned (.slice (some ⟨w.heap.size,0,none⟩) (Lib.countB s sep+1) (Lib.countB s sep+1))/\w'=w.alloc (.cells ((Lib.splitB sep 0 (Lib.countB s sep) s).map Value.string).toArray 9):=Any.strings_Split Tryz.lays146 (by kernel_rfl) s sep m w hs hm h1
def Tryz.lays110_ren:Go.Shelf.Ren:=⟨λ|110=>95|109=>91|n=>n,λ|31=>25|9=>9|4=>4|3=>3|0=>0|n=>n,λ|n=>n⟩
def Tryz.lays110:Go.Proofs.Lays.n110 aM Tryz.lays110_ren:={
 mixed:=by kernel_rfl
 f109:=aZ Tryz.func91
 f110:=aZ Tryz.func95
 t0:=Tryz.underlying0
 a0:=Tryz.isAgg0
 z0:=Tryz.sizeOf0
 v0:=Tryz.zeroValue0
 t3:=Tryz.underlying3
 a3:=Tryz.isAgg3
 z3:=Tryz.sizeOf3
 v3:=Tryz.zeroValue3
 t4:=Tryz.underlying4
 a4:=Tryz.isAgg4
 z4:=Tryz.sizeOf4
 v4:=Tryz.zeroValue4
 t9:=Tryz.underlying9
 a9:=Tryz.isAgg9
 z9:=Tryz.sizeOf9
 v9:=Tryz.zeroValue9
 t31:=Tryz.underlying25
 a31:=Tryz.isAgg25
 z31:=Tryz.sizeOf25
 v31:=Tryz.zeroValue25}
open Go.Lib in
def Tryz.slices_Contains_string(b off n c:Nat)(zs:List ByteArray)(x:ByteArray)(w:World)(hz:n<=zs.length)(hbig:n<=9223372036854775807)(hc:∀j,j<zs.length->w.cell? ⟨b,off+j,none⟩=some (.string (zs.getD j ByteArray.empty))):
  aq 95 #[.slice (some ⟨b,off,none⟩) n c,.string x] w λe w'=>e=.returned (.bool (Lib.containsS (zs.take n) x))/\w'=w:=Any.slices_Contains_string Tryz.lays110 b off n c zs x w hz hbig hc
open Go.Lib in
def Tryz.slices_Contains_string_empty(a:Option Addr)(c:Nat)(x:ByteArray)(w:World):
  aq 95 #[.slice a 0 c,.string x] w λe w'=>e=.returned (.bool false)/\w'=w:=Any.slices_Contains_string_empty Tryz.lays110 a c x w
def Tryz.aov:Go.Shelf.Ren:=⟨λ|17=>97|n=>n,λ|24=>25|9=>9|3=>3|4=>4|0=>0|n=>n,λ|n=>n⟩
def Tryz.acm:Go.Proofs.Lays2.n17 aM Tryz.aov:={
 mixed:=by kernel_rfl
 f17:=aZ Tryz.func97
 t0:=Tryz.underlying0
 a0:=Tryz.isAgg0
 z0:=Tryz.sizeOf0
 v0:=Tryz.zeroValue0
 t3:=Tryz.underlying3
 a3:=Tryz.isAgg3
 z3:=Tryz.sizeOf3
 v3:=Tryz.zeroValue3
 t4:=Tryz.underlying4
 a4:=Tryz.isAgg4
 z4:=Tryz.sizeOf4
 v4:=Tryz.zeroValue4
 t9:=Tryz.underlying9
 a9:=Tryz.isAgg9
 z9:=Tryz.sizeOf9
 v9:=Tryz.zeroValue9
 t24:=Tryz.underlying25
 a24:=Tryz.isAgg25
 z24:=Tryz.sizeOf25
 v24:=Tryz.zeroValue25}
open Go.RowKit Go.Lib Go.Sort in
def Tryz.slices_Reverse_string(blk off cap:Nat)(zs:List (List UInt8))(w:World)(hH:Holds encStr w blk off zs.toArray)(hsz:zs.length<=9223372036854775807):
  aq 97 #[.slice (some ⟨blk,off,none⟩) zs.length cap] w λe w'=>e=.returned (.tuple #[])/\∃n,w'=putRow encStr (Sort.ahead w n) blk off zs.reverse.toArray:=Any.slices_Reverse_string Tryz.acm blk off cap zs w hH hsz
open Go.RowKit Go.Lib Go.Sort in
def Tryz.slices_Reverse_string_empty(a:Option Addr)(cap:Nat)(w:World):
  aq 97 #[.slice a 0 cap] w λe w'=>e=.returned (.tuple #[])/\w'=w:=Any.slices_Reverse_string_empty Tryz.acm a cap w
open Go.RowKit Go.Sort in
def Tryz.slices_Sort_string_none(p:Option Addr)(cap:Nat)(w:World):
  aq 94 #[.slice p 0 cap] w λe w'=>e=.returned (.tuple #[])/\w'=w:=Any.slices_Sort_string_none Tryz.lays190 p cap w
end Go.Proofs
namespace Go.Proofs.YtihaaoehhgmphaaGreatDoor
open IntKind Go.RowKit Vc
variable{w:World}
structure Env(w:World):Prop where
 tab:Lib.TabIs aM w "internal/strconv.uint64pow10" .u64 Lib.pow10Tab
 es:∃v:Value,v.oneCell'=true/\w.cell? ⟨4,0,none⟩=some v
 er:∃v:Value,v.oneCell'=true/\w.cell? ⟨5,0,none⟩=some v
def axx{P:Program}{name:String}{g:Nat}{cs:Array Value}(hg:P.globalNamed name=some g)(h:w.var? P name=some cs):g<w.heap.size:=by
 unfold World.var? at h;rw[hg]at h;simp only[KC]at h;cases hh:w.heap[g]? with
 |none=>rw[hh]at h;cases h
 |some o=>exact(aH0.1 hh).1
def asJ{P:Program}{name:String}{g:Nat}{k:IntKind}{zs:List Int}{w':World}(hg:P.globalNamed name=some g)(h:Lib.TabIs P w name k zs)(hm:Still w w'):Lib.TabIs P w' name k zs:=by have hlt:=axx hg h;unfold Lib.TabIs World.var? at h⊢;rw[hg]at h⊢;simp only[KC]at h⊢;rw[hm.block g hlt (λh=>h)];exact h
def Env.still{w':World}(h:Env w)(hm:Still w w'):Env w':=by obtain⟨h1,⟨v2,o2,c2⟩,⟨v3,o3,c3⟩⟩:=h;exact⟨asJ (g:=3) (by kernel_rfl) h1 hm,⟨v2,o2,hm.cell c2⟩,⟨v3,o3,hm.cell c3⟩⟩
def aq2(w:World)(k:Nat)(os:Array Obj):Still w (Go.Sort.grow (w.drewN k) os):=
 ⟨rfl,rfl,rfl,by simp[Go.Sort.grow,World.drewN],λi hi _=>by simp[Go.Sort.grow,World.drewN,Array.getElem?_append_left hi]⟩
def GS(h:Env w)(n:Int)(h0: -9223372036854775808<=n)(h1:n<9223372036854775808):aq wF #[.int .i64 n] w (λe w'=>e=.returned (.string (S (Lib.itoa n)))/\Still w w'):=by refine(Tryz.strconv_Itoa n h0 (by omega) w h.tab).mono ?_;rintro _ w' ⟨rfl,k,os,rfl⟩;exact⟨rfl,aq2 w k os⟩
def aq3(w:World)(g n:Nat):Mod (λk=>k=g) w (w.freeze ⟨g,0,none⟩ n):=by
 unfold World.freeze;split
 .exact Mod.refl _ _
 .exact⟨rfl,rfl,rfl,by simp,λk hk hn=>by simp only[FU];rw[aG (λe=>hn e.symm)]⟩
def aa8(s:ag)(hs:s.length<=140737488355328):aq J5 #[.string (S s)] w (λe w'=>e=.returned (.string (S s))/\Still w w'):=by
 apply ajP;refine aA (λh=>?_) (λh=>?_)
 .have h:s.length=0:=by have:=aR h;omega
  obtain rfl:=pU h;exact⟨rfl,Still.refl _⟩
 have h:s.length≠0:=by have:=aX h;omega
 have h0:s≠[]:=λe=>h (by rw[e];rfl);refine⟨by omega,by omega,by omega,by omega,nS ?_⟩;have VA:(madeCells #[(.int .u8 (0:Int))] (Int.toNat (s.length:Int)*1)).size=s.length:=by rw[size_madeCells];simp
 have aJe:Still w (w.alloc (.cells (madeCells #[(.int .u8 (0:Int))] (Int.toNat (s.length:Int)*1)) 5)):=(Mod.refl _ _).alloc _;have ru:Row (w.alloc (.cells (madeCells #[(.int .u8 (0:Int))] (Int.toNat (s.length:Int)*1)) 5)) w.heap.size 5 (madeCells #[(.int .u8 (0:Int))] (Int.toNat (s.length:Int)*1)):=Row.new _ _ _;generalize w.alloc (.cells (madeCells #[(.int .u8 (0:Int))] (Int.toNat (s.length:Int)*1)) 5)=w1 at*;generalize madeCells #[(.int .u8 (0:Int))] (Int.toNat (s.length:Int)*1)=VB at*;have ebc:(s.take (min (Int.toNat (s.length:Int)) s.length)).map (λb=>Value.int .u8 b.toNat)=bc s:=by rw[b6,Nat.min_self,oD];rfl
 refine⟨bc s,aKN s,ebc.symm,.inr ⟨w.heap.size,0,VB.toList,5,rfl,ru,by rw[GL];simp[VA],nS ?_⟩⟩;have hcs:VB.toList.take 0++(bc s++VB.toList.drop (0+(bc s).length))=bc s:=by rw[GL,Yg (by simp[VA])];simp
 rw[hcs];have aHc:=ru.setRow ⟨bc s⟩ (by simp[VA]);have aIo:Still w (w1.setRow w.heap.size ⟨bc s⟩):=aJe.setRow (.inr (aV _)) _;generalize w1.setRow w.heap.size ⟨bc s⟩=w2 at*;refine⟨by decide,by omega,s,rfl,by omega,.inr ⟨h0,w.heap.size,s.length,rfl,by obtain⟨fz,hh,_⟩:=aHc;show World.shape? _ _=_;simp[World.shape?,hh],aV _,λj x hx=>?_,rfl,aIo.box (aV _) (aq3 _ _ _)⟩⟩;exact(by rw[aHa,cQ]:(Addr.mk w.heap.size 0 none).add j=Addr.mk w.heap.size j none)▸aHc.aj (HF hx)
def anx(he:Env w)(f s:ag)(hs:s.length<=140737488355328):aq Qa #[.string (S f),.string (S s)] w (λe w'=>(∃p,e=.returned (.pointer p))/\Still w w'):=by apply akx;obtain⟨v,h1,h2⟩:=he.es;refine⟨λwq=>Still w wq,(Still.refl _).cy,v,h1,λwq hq=>hq.cell h2,(aa8 s hs).mono ?_⟩;rintro _ w1 ⟨rfl,hs1⟩;have hst:=(Still.refl w).cy.trans hs1;exact .inl ⟨_,rfl,hst,by refine Vx h1 (nS ⟨⟨_,rfl⟩,hst.alloc _⟩)⟩
def anQ(he:Env w)(f s:ag)(hs:s.length<=140737488355328):aq Qp #[.string (S f),.string (S s)] w (λe w'=>(∃p,e=.returned (.pointer p))/\Still w w'):=by apply akZ;obtain⟨v,h1,h2⟩:=he.er;refine⟨λwq=>Still w wq,(Still.refl _).cy,v,h1,λwq hq=>hq.cell h2,(aa8 s hs).mono ?_⟩;rintro _ w1 ⟨rfl,hs1⟩;have hst:=(Still.refl w).cy.trans hs1;exact .inl ⟨_,rfl,hst,by refine Vx h1 (nS ⟨⟨_,rfl⟩,hst.alloc _⟩)⟩
abbrev Bc(k:Nat):Value:=.iface 340 (.int .i64 (k:Int))
def ao6(he:Env w)(f s:ag)(b z:Int)(hs:s.length<=140737488355328){k:Nat}(hk:k=1\/k=2):
  aq QX #[.string (S f),.string (S s),.int .i64 b,.int .i64 z,Bc k] w (λe w'=>(∃t v,e=.returned (.iface t v))/\Still w w'):=by
 apply alM;refine⟨rfl,rfl,?_⟩;rcases hk with rfl|rfl
 .refine aA (λh=>by cases h) (λ_=>⟨rfl,rfl,aA (λ_=>?_) (λh=>by cases h)⟩)
  refine(anQ he f s hs).mono ?_;rintro _ w1 ⟨⟨p,rfl⟩,hs1⟩;exact .inl ⟨_,rfl,⟨_,_,rfl⟩,hs1⟩
 .refine aA (λ_=>?_) (λh=>by cases h)
  refine(anx he f s hs).mono ?_;rintro _ w1 ⟨⟨p,rfl⟩,hs1⟩;exact .inl ⟨_,rfl,⟨_,_,rfl⟩,hs1⟩
def Read(r:Pr Int)(a b:Value):Prop:=match r with
 |.ok n=>a=.int .i64 n/\b=.nilIface
 |.bad k=>(∃m:Int,a=.int .i64 m/\-9223372036854775808<=m/\m<9223372036854775808)/\b=Bc k
def U6(r:Pr Nat)(a b:Value):Prop:=match r with
 |.ok n=>a=.int .u64 (n:Int)/\b=.nilIface
 |.bad k=>(a=.int .u64 (if k=1 then 18446744073709551615 else 0))/\b=Bc k
def axy(c:UInt8):bits .or .u8 (c.toNat:Int) 32=((qh c:Nat):Int):=by
 have h:∀n:Nat,n<256->bits .or .u8 (n:Int) 32=((n|||32:Nat):Int):=by decide+kernel
 rw[h _ c.toNat_lt];unfold qh;rw[UInt8.toNat_or];rfl
def SC(c:UInt8):aq aJ0 #[.int .u8 (c.toNat:Int)] w (λe w'=>e=.returned (.int .u8 ((qh c:Nat):Int))/\w'=w):=
 aj2 _ _ _ ⟨by rw[axy],rfl⟩
def wrap_u8{n:Int}(h0:0<=n)(h1:n<256):u8.wrap n=n:=by simp only[IntKind.wrap,IntKind.signed,IntKind.bits];simp;omega
def aow{n:Int}(h0:18446744073709551616<=n)(h1:n<36893488147419103232):u64.wrap n=n-18446744073709551616:=by simp only[IntKind.wrap,IntKind.signed,IntKind.bits];simp;omega
def awg{a d:Nat}(hd:d<36)(h:¬((a:Int)+(d:Int)-18446744073709551616<(a:Int))):False:=h (by omega)
def awh(c:UInt8):qh c<256:=(c|||32).toNat_lt
def awi{c:UInt8}{d:Nat}(h:aID c=some d):d<36:=by
 unfold aID at h;split at h
 .injection h with h;omega
 .split at h
  .injection h with h;omega
  .cases h
set_option maxRecDepth 20000 in
def aof(b:Nat)(hb:b=8\/b=10\/b=16)(z:Int)(hz:z=0\/z=64)(s:ag)(hs:s.length<=140737488355328):
  aq PA #[.string (S s),.int .i64 (b:Int),.int .i64 z] w (λe w'=>(∃x y,e=.returned (.tuple #[x,y])/\U6 (jI b s) x y)/\Still w w'):=by
 apply ajO;refine aA (λh=>?_) (λh=>?_)
 .have h:=aR h
  subst h;exact⟨⟨_,_,rfl,rfl,rfl⟩,Still.refl _⟩
 have h0:s≠[]:=aX h;have hpu:jI b s=k3 b s 0:=by unfold jI;rw[aG h0]
 rw[hpu];have ayl:u64.wrap (b:Int)=(b:Int):=wrap_u64 (by omega) (by omega);have axz:u8.wrap (b:Int)=(b:Int):=wrap_u8 (by omega) (by omega);refine⟨λs1 b1 w1=>s=s1/\b1=(b:Int)/\w1=w,⟨λx w1=>x=true/\w1=w,?_,?_⟩,?_⟩
 .exact aA (λ_=>⟨by rw[fe];omega,rfl⟩) (λh=>by have:=aX h;omega)
 .rintro _ _ w1 ⟨rfl,rfl⟩
  exact aA (λ_=>⟨rfl,rfl,rfl⟩) (λh=>by cases h)
 rintro _ _ _ w1 ⟨rfl,rfl,rfl⟩;refine⟨λz1 w2=>z1=64/\w2=w1,?_,?_⟩
 .rcases hz with rfl|rfl
  .exact aA (λ_=>⟨rfl,rfl⟩) (λh=>by simp at h)
  .exact aA (λh=>by simp at h) (λ_=>aA (λh=>by simp at h) (λ_=>aA (λh=>by simp at h) (λ_=>⟨rfl,rfl⟩)))
 rintro _ _ w2 ⟨rfl,rfl⟩;refine⟨λc w3=>c=((18446744073709551615/b+1:Nat):Int)/\w3=w2,?_,?_⟩
 .rcases hb with rfl|rfl|rfl
  .refine aA (λh=>by simp at h) (λ_=>aA (λh=>by simp at h) (λ_=>⟨by decide,by decide,rfl⟩))
  .exact aA (λ_=>⟨by decide,rfl⟩) (λh=>by simp at h)
  .exact aA (λh=>by simp at h) (λ_=>aA (λ_=>⟨by decide,rfl⟩) (λh=>by simp at h))
 rintro _ _ w3 ⟨rfl,rfl⟩;refine⟨by decide,by omega,λcp w4 qt Jq=>?_⟩;have iL:Still w3 w4:=(Mod.refl _ _).grown Jq (λg e=>by cases e);have WL:∀{w5:World},Still w4 w5->∀{k:Nat} {c:UInt8},s[k]?=some c->w5.cell? (Addr.mk w3.heap.size k none)=some (.int .u8 (c.toNat:Int)):=λhst k c hc=>hst.cell (qt.cells rfl k _ (HF hc));have azq:u64.wrap (u64.wrap (1*2^(min (Int.toNat (u64.wrap 64)) (u64.bits)))-1)=18446744073709551615:=by decide
 rw[azq,ayl,axz];refine⟨λu n i w5=>∃k m:Nat,u=false/\n=(m:Int)/\i=(k:Int)/\k<=s.length/\m<=18446744073709551615/\k3 b s 0=k3 b (s.drop k) m/\w5=w4,λ_ _ i _=>s.length-i.toNat,⟨0,0,rfl,rfl,rfl,dK _,by decide,rfl,rfl⟩,?_⟩;rintro _ _ _ _ w5 ⟨k,m,rfl,rfl,rfl,hk,hm,hsc,rfl⟩;refine aA (λhx=>?_) (λhx=>?_)
 .have hx:k<s.length:=by have:=aR hx;omega
  have e1:i64.wrap ((k:Int)+1)=((k+1:Nat):Int):=wI;rw[e1,qB hx]at*;have hsk:=getD_some hx;generalize s[k]=c at*;have hc256:c.toNat<256:=c.toNat_lt;have stop:∀j,k3 b (c::s.drop (k+1)) m=.bad j->∀x,x=(if j=1 then 18446744073709551615 else 0:Int)->(∃x' y',(Ending.returned (.tuple #[.int .u64 x,Bc j]))=.returned (.tuple #[x',y'])/\U6 (k3 b s 0) x' y')/\Still w3 w5:=by rintro j hj x rfl;rw[hsc,hj];exact⟨⟨_,_,rfl,rfl,rfl⟩,iL⟩
  simp only[k3]at stop hsc;refine⟨λu n w6=>u=false/\∃d,aID c=some d/\d<b/\m*b+d<=18446744073709551615/\n=((m*b+d:Nat):Int)/\w6=w5,⟨by omega,by omega,_,by rw[b6,aHp,aHa,cQ];exact WL (Still.refl _) hsk,λu d w6=>u=false/\∃d':Nat,aID c=some d'/\d=(d':Int)/\w6=w5,⟨λx w6=>x=false/\w6=w5,?_,?_⟩,?_⟩,?_⟩
  .refine aA (λ_=>⟨?_,rfl⟩) (λ_=>⟨rfl,rfl⟩)
   rw[eX];omega
  .rintro _ _ w6 ⟨rfl,rfl⟩
   refine aA (λh=>by cases h) (λ_=>⟨λx w7=>x=(decide (48<=c.toNat/\c.toNat<=57))/\w7=w6,?_,?_⟩)
   .refine aA (λh1=>⟨?_,rfl⟩) (λh1=>⟨?_,rfl⟩)
    .have h1:48<=c.toNat:=by have:=aR h1;omega
     by_cases h2:c.toNat<=57
     .rw[fe (show((c.toNat:Int)<=57) by omega),fe ⟨h1,h2⟩]
     .rw[eX (show¬((c.toNat:Int)<=57) by omega),eX (λh=>h2 h.2)]
    .have h1:¬48<=c.toNat:=by have:=aX h1;omega
     rw[eX (λh=>h1 h.1)]
   .rintro _ _ w7 ⟨rfl,rfl⟩
    refine aA (λh=>?_) (λh=>?_)
    .have h:=aR h
     refine⟨rfl,c.toNat-48,by unfold aID;rw[aL h],?_,rfl⟩;rw[wrap_u8 (by omega) (by omega)];omega
    .have h:=aX h
     have Jr:=awh c;refine(SC c).mono ?_;rintro _ w8 ⟨rfl,rfl⟩;refine .inl ⟨_,rfl,aA (λh2=>?_) (λh2=>?_)⟩
     .have h2:97<=qh c:=by have:=aR h2;omega
      refine(SC c).mono ?_;rintro _ w8 ⟨rfl,rfl⟩;refine .inl ⟨_,rfl,aA (λh3=>?_) (λh3=>?_)⟩
      .have h3:qh c<=122:=by have:=aR h3;omega
       refine(SC c).mono ?_;rintro _ w8 ⟨rfl,rfl⟩;refine .inl ⟨_,rfl,rfl,qh c-97+10,by unfold aID;rw[aG h,aL ⟨h2,h3⟩],?_,rfl⟩;have e2:u8.wrap (((qh c:Nat):Int)-97)=((qh c-97:Nat):Int):=by rw[wrap_u8 (by omega) (by omega)];omega
       rw[e2,wrap_u8 (by omega) (by omega)];omega
      .have h3:¬qh c<=122:=by have:=aX h3;omega
       have hd:aID c=none:=by unfold aID;rw[aG h,aG (λh=>h3 h.2)]
       exact stop 2 (by rw[hd]) 0 rfl
     .have h2:¬97<=qh c:=by have:=aX h2;omega
      have hd:aID c=none:=by unfold aID;rw[aG h,aG (λh=>h2 h.1)]
      exact stop 2 (by rw[hd]) 0 rfl
  .rintro _ _ _ w6 ⟨rfl,d,hd,rfl,rfl⟩
   have azr:=awi hd;rw[hd]at stop hsc;dsimp only at stop hsc;refine aA (λh1=>?_) (λh1=>?_)
   .have h1:b<=d:=by have:=aR h1;omega
    exact stop 2 (by rw[aL h1]) 0 rfl
   have h1:¬b<=d:=by have:=aX h1;omega
   rw[aG h1]at stop hsc;have ov:18446744073709551615<m*b+d->∀x,x=(18446744073709551615:Int)->(∃x' y',(Ending.returned (.tuple #[.int .u64 x,Bc 1]))=.returned (.tuple #[x',y'])/\U6 (k3 b s 0) x' y')/\Still w3 w6:=λh x hx=>stop 1 (by rw[aL h]) x (by rw[hx];rfl);have hdm:=Nat.div_add_mod 18446744073709551615 b;have hml:=DY 18446744073709551615 (show 0<b by omega);refine aA (λh2=>?_) (λh2=>?_)
   .have h2:18446744073709551615/b+1<=m:=by have:=aR h2;omega
    have h3:b*(18446744073709551615/b+1)<=b*m:=Qh _ h2;have h4:b*m=m*b:=RA _ _;rw[Nat.mul_add]at h3;exact ov (by omega) _ rfl
   have h2:m<=18446744073709551615/b:=by have:=aX h2;omega
   have h3:b*m<=b*(18446744073709551615/b):=Qh _ h2;have h4:b*m=m*b:=RA _ _;have e2:u64.wrap ((m:Int)*(b:Int))=((m*b:Nat):Int):=by
    have:((m:Int)*(b:Int))=((m*b:Nat):Int):=by push_cast;rfl
    rw[this];exact wrap_u64 (by omega) (by omega)
   have e3:u64.wrap (d:Int)=(d:Int):=wrap_u64 (by omega) (by omega);rw[e2,e3]
   by_cases hov:18446744073709551615<m*b+d
   .have e4:u64.wrap (((m*b:Nat):Int)+(d:Int))=(((m*b:Nat):Int)+(d:Int)-18446744073709551616):=by
     rw[aow (by omega) (by omega)]
    rw[e4];refine aA (λ_=>ov hov _ rfl) (λh5=>?_);have h6:=aX h5;exact(awg azr h6).elim
   .have e4:u64.wrap (((m*b:Nat):Int)+(d:Int))=((m*b+d:Nat):Int):=by
     rw[wrap_u64 (by omega) (by omega)];omega
    rw[e4];refine aA (λh5=>?_) (λ_=>aA (λh5=>?_) (λ_=>⟨rfl,d,hd,by omega,by omega,rfl,rfl⟩))
    .have:=aR h5
     omega
    .have:=aR h5
     omega
  .rintro _ _ _ w6 ⟨rfl,d,hd,hdb,hle,rfl,rfl⟩
   rw[hd]at hsc;dsimp only at hsc;rw[aG (by omega),aG (by omega)]at hsc;exact⟨⟨k+1,m*b+d,rfl,rfl,rfl,hx,hle,hsc,rfl⟩,by dsimp only;omega⟩
 .have hx:k=s.length:=by have:=aX hx;omega
  subst hx;rw[ye]at hsc;refine aA (λh=>by cases h) (λ_=>⟨⟨_,_,rfl,?_⟩,iL⟩);rw[hsc];exact⟨rfl,rfl⟩
def two63{z:Int}(hz:z=64):u64.wrap (1*2^(min (Int.toNat (u64.wrap (i64.wrap (z-1)))) (u64.bits)))=9223372036854775808:=by subst hz;decide
def auP{m:Nat}(h:¬9223372036854775808<m):i64.wrap (0-i64.wrap (m:Int))= -(m:Int):=by simp only[IntKind.wrap,IntKind.signed,IntKind.bits];simp;omega
set_option maxRecDepth 20000 in
def aox(b:Nat)(hb:b=8\/b=10\/b=16)(z:Int)(hz:z=0\/z=64)(s:ag)(hs:s.length<=140737488355328):
  aq PE #[.string (S s),.int .i64 (b:Int),.int .i64 z] w (λe w'=>(∃x y,e=.returned (.tuple #[x,y])/\Read (nM b s) x y)/\Still w w'):=by
 apply ajS;refine aA (λh=>?_) (λh=>?_)
 .have h:=aR h
  subst h;exact⟨⟨_,_,rfl,⟨_,rfl,by decide,by decide⟩,rfl⟩,Still.refl _⟩
 have h0:s≠[]:=aX h;refine⟨λs1 neg w1=>w1=w/\nM b s=signed neg (jI b s1)/\s1.length<=140737488355328,?_,?_⟩
 .cases s with
  |nil=>exact absurd rfl h0
  |cons c t=>
   simp only[bf]at hs;refine⟨by decide,c,rfl,aA (λh1=>?_) (λh1=>?_)⟩
   .have h1:c=43:=aHi.1 (aR h1)
    refine⟨by decide,by simp only[bf];omega,rfl,?_,by show t.length<=_;omega⟩;show nM b (c::t)=signed false (jI b t)
    simp only[nM];rw[aL h1]
   have h1:¬c=43:=λe=>aX h1 (aHi.2 e);refine aA (λh2=>?_) (λh2=>?_)
   .have h2:c=45:=aHi.1 (aR h2)
    refine⟨by decide,by simp only[bf];omega,rfl,?_,by show t.length<=_;omega⟩;show nM b (c::t)=signed true (jI b t)
    simp only[nM];rw[aG h1,aL h2]
   have h2:¬c=45:=λe=>aX h2 (aHi.2 e);refine⟨rfl,?_,by simp only[bf];omega⟩;simp only[nM];rw[aG h1,aG h2]
 rintro s1 neg _ w1 ⟨rfl,hpi,hs1⟩;rw[hpi];refine(aof b hb z hz s1 hs1).mono ?_;rintro _ w2 ⟨⟨x,y,rfl,hr⟩,hs2⟩;have main:∃m:Nat,x=.int .u64 (m:Int)/\m<=18446744073709551615/\y.oneCell'=true/\
   ((y=.nilIface/\jI b s1=.ok m)\/(y=Bc 1/\jI b s1=.bad 1/\m=18446744073709551615)\/(y=Bc 2/\jI b s1=.bad 2)):=by
  cases hp:jI b s1 with
  |ok m=>rw[hp]at hr;obtain⟨rfl,rfl⟩:=hr;exact⟨m,rfl,asz hp,rfl,.inl ⟨rfl,rfl⟩⟩
  |bad k=>
   rw[hp]at hr;obtain⟨rfl,rfl⟩:=hr;rcases aKE hp with rfl|rfl
   .exact⟨18446744073709551615,rfl,by decide,rfl,.inr (.inl ⟨rfl,rfl,rfl⟩)⟩
   .exact⟨0,rfl,by decide,rfl,.inr (.inr ⟨rfl,rfl⟩)⟩
 obtain⟨m,rfl,hm,hy1,hy⟩:=main;refine .inl ⟨_,y,hy1,rfl,λw3=>w3=w2/\((jI b s1=.ok m)\/(jI b s1=.bad 1/\m=18446744073709551615)),⟨λq w3=>w3=w2/\((q=false/\((jI b s1=.ok m)\/(jI b s1=.bad 1/\m=18446744073709551615)))\/(q=true/\y=Bc 2/\jI b s1=.bad 2)),?_,?_⟩,?_⟩
 .rcases hy with⟨rfl,hp⟩|⟨rfl,hp,hmm⟩|⟨rfl,hp⟩
  .exact⟨rfl,.inl ⟨rfl,.inl hp⟩⟩
  .exact⟨rfl,rfl,rfl,.inl ⟨rfl,.inr ⟨hp,hmm⟩⟩⟩
  .exact⟨rfl,rfl,rfl,.inr ⟨rfl,rfl,hp⟩⟩
 .rintro _ _ w3 ⟨rfl,⟨rfl,h⟩|⟨rfl,rfl,h⟩⟩
  .exact⟨rfl,h⟩
  .rw[h]
   exact⟨⟨_,_,rfl,⟨_,rfl,by decide,by decide⟩,rfl⟩,hs2⟩
 clear hy hy1 hr;rintro _ w3 ⟨rfl,hp⟩;have sg:signed neg (jI b s1)=if neg=true then(if 9223372036854775808<m then .bad 1 else .ok (-(m:Int)))else if 9223372036854775808<=m then .bad 1 else .ok (m:Int):=by
  rcases hp with hp|⟨hp,rfl⟩
  .rw[hp];rfl
  .rw[hp];cases neg<;>rfl
 rw[sg];clear sg hp;rcases hz with rfl|rfl<;>first|refine aA (λh=>absurd h (by decide)) (λ_=>?_)|refine aA (λ_=>?_) (λh=>absurd h (by decide))
 all_goals
  refine⟨by decide,?_⟩;rw[two63 rfl];cases neg with
  |false=>
   refine aA (λ_=>?_) (λh=>by cases h);refine aA (λh=>?_) (λh=>?_)
   .have h:9223372036854775808<=m:=by have:=aR h;omega
    rw[aG (by decide),aL h];exact⟨⟨_,_,rfl,⟨_,rfl,by decide,by decide⟩,rfl⟩,hs2⟩
   .have h:¬9223372036854775808<=m:=by have:=aX h;omega
    rw[aG (by decide),aG h];refine aA (λh=>by cases h) (λ_=>aA (λh=>by cases h) (λ_=>⟨⟨_,_,rfl,?_,rfl⟩,hs2⟩));rw[wrap_i64 (by omega) (by omega)]
  |true=>
   refine aA (λh=>by cases h) (λ_=>aA (λ_=>?_) (λh=>by cases h));refine aA (λh=>?_) (λh=>?_)
   .have h:9223372036854775808<m:=by have:=aR h;omega
    rw[aL rfl,aL h];exact⟨⟨_,_,rfl,⟨_,rfl,by decide,by decide⟩,rfl⟩,hs2⟩
   .have h:¬9223372036854775808<m:=by have:=aX h;omega
    rw[aL rfl,aG h];refine aA (λ_=>⟨⟨_,_,rfl,?_,rfl⟩,hs2⟩) (λh=>by cases h);rw[auP h]
def nd{p:Prop}[Decidable p](h:(!decide p)=false):p:=by simpa using h
def Ir(s:ag)(w:World)(p:Option Addr)(n:Nat)(k:Int):Prop:=∃l,de w p n l/\((k=0/\decode s=some l)\/(k=20/\n=0/\decode s=none))
def Ir.still{s:ag}{w':World}{p:Option Addr}{n:Nat}{k:Int}(h:Ir s w p n k)(hm:Still w w'):Ir s w' p n k:=by obtain⟨l,h1,h2⟩:=h;exact⟨l,h1.still hm,h2⟩
def Ir.bad{s:ag}(h:decode s=none)(w:World):Ir s w none 0 20:=⟨[],de.nil w,.inr ⟨rfl,rfl,h⟩⟩
def aS.af4{B:Nat}{e:TypeId}{size n:Nat}{p:Option Addr}{c:Nat}{xs:List Value}(h:aS w B e size (.slice p n c) n xs):n<=c:=by
 rcases h.2 with⟨he,rfl⟩|⟨g,cap,cur,he,_,_,hc,_⟩
 .exact dK _
 .injection he with _ _ e3
  subst e3;exact hc
def GH{g:FuncId}{first cap:List Value}{K:FuncId->List Value->List Value->Prop}(h:K g first cap):gu (.func (.func g) ⟨first⟩ ⟨cap⟩) K:=h
def axA:nT 86 2 0:=by unfold nT;kernel_rfl
def ao7{w0:World}{g B:Nat}{cs:List Value}{v:Value}{bs:List UInt8}(he:Env w0)(h0:Still w0 w)(hb:eE w 86 g 0 B cs v bs)(hcs:cs.length=2)(hg:w0.heap.size<=g)(Ff:w0.heap.size<=B)(hB:B<=w.heap.size)
  (x:ag)(hx:(dec x.length).length<=9)(hbs:bs.length+x.length<=70000000000000):
  aq DP #[.pointer (some ⟨g,0,none⟩),.string (S x)] w (λe w'=>e=.returned (.pointer (some ⟨g,0,none⟩))/\∃cs' v',cs'.length=2/\eE w' 86 g 0 B cs' v' (bs++one x)/\Still w0 w'/\w.heap.size<=w'.heap.size):=by
 apply al3;refine(GS (he.still h0) (x.length:Int) (by omega) (by omega)).mono ?_;rintro _ w1 ⟨rfl,hs1⟩;rw[Lib.itoa_nonneg];have hdx:(Lib.decDigits x.length).length<=9:=hx;have ho:((((dec x.length)++[58])++x)++[44]).length<=11+x.length:=by simp only[cB,bf,aHf];omega
 refine .inl ⟨_,rfl,?_⟩;have WM:([58]:List UInt8).length=1:=rfl;have el2:([44]:List UInt8).length=1:=rfl;refine⟨by rw[WM];omega,by rw[cB,WM];omega,by rw[cB,cB,WM,el2];omega,?_⟩;refine(B1 (hb.still hs1) (by rw[hcs];exact axA) (one x) (by have:=hs1.size;omega) (by have:(one x).length<=11+x.length:=ho;omega)).mono ?_;rintro _ w2 ⟨rfl,v',h1,h2⟩;refine .inl ⟨_,_,rfl,rfl,rfl,_,v',by simp[hcs],h1,?_,?_⟩
 .refine Mod.trans (h0.trans hs1) h2 (λ_ h=>h) (λi hi e=>?_)
  rcases e with rfl|e
  .omega
  .have:=hb.own.mQ e
   omega
 .have:=hs1.size
  have:=h2.size;omega
set_option maxRecDepth 10000 in
def asK{w0:World}{g B:Nat}{cs:List Value}(he:Env w0)(h0:Still w0 w)(hb:eE w 86 g 0 B cs (.slice none 0 0) [])(hcs:cs.length=2)(hg:w0.heap.size<=g)(Ff:w0.heap.size<=B)(hB:B<=w.heap.size)
  {l:Option Addr}{lL lC:Nat}{ls:List ag}(hl:de w0 l lL ls)(ht:total ls<=100000):
  aq Pu #[.slice l lL lC,.pointer (some ⟨g,0,none⟩),.func (.func DP) #[] #[]] w (λe w'=>e=.returned (.pointer (some ⟨g,0,none⟩))/\∃cs' v',eE w' 86 g 0 B cs' v' (encode ls)/\Still w0 w'):=by
 apply ajB;have hn9:=ada ht;have hlen:=hl.1;have htl:=aoZ ls;refine⟨λr x w1=>∃(i:Nat) (cs:List Value) (v:Value),r=some ⟨g,0,none⟩/\x=(i:Int)/\i<=lL/\cs.length=2/\eE w1 86 g 0 B cs v (encode (ls.take i))/\Still w0 w1/\B<=w1.heap.size,λ_ x _=>lL-x.toNat,
  ⟨0,cs,_,rfl,rfl,dK _,hcs,hb,h0,hB⟩,?_⟩
 rintro _ _ _ w1 ⟨i,cs1,v,rfl,rfl,hi,azs,hU,hs1,hB1⟩;refine aA (λhx=>?_) (λhx=>?_)
 .have hx:i<lL:=by have:=aR hx;omega
  have e1:i64.wrap ((i:Int)+1)=((i+1:Nat):Int):=wI;obtain⟨a,rfl,hc⟩:=(hl.still hs1).get hx;refine⟨by omega,by omega,_,by rw[b6,aHp];exact hc,GH (g:=DP) (first:=[]) (cap:=[]) ?_⟩;refine aA (λ_=>?_) (λh=>absurd h (by rw[show dD aM DP=true by kernel_rfl];decide));have hil:i<ls.length:=by omega
  have htk:=D9 hil;have hmem:ls[i]∈ls:=kI hil;have hel:=LA (l:=ls.take i) (λx hx=>hn9 x (Kk hx));have WN:=aot ls i;have hm:=ab6 hmem;refine(ao7 he hs1 hU azs hg Ff hB1 ls[i] (hn9 _ hmem) (by omega)).mono ?_;rintro _ w2 ⟨rfl,cs2,v2,azt,fS,hs2,jz⟩;refine .inl ⟨_,rfl,?_⟩;rw[e1];refine⟨⟨i+1,cs2,v2,rfl,rfl,hx,azt,?_,hs2,by omega⟩,by dsimp only;omega⟩;rw[htk,aos];have:encode [ls[i]]=one ls[i]:=by simp[encode]
  rw[this];exact fS
 .have hx:i=ls.length:=by have:=aX hx;omega
  rw[hx,oD]at hU;exact⟨rfl,_,_,hU,hs1⟩
set_option maxRecDepth 10000 in
def Lw(he:Env w){l:Option Addr}{lL lC:Nat}{ls:List ag}(hl:de w l lL ls)(ht:total ls<=100000):
  aq B3 #[.slice l lL lC] w (λe w'=>e=.returned (.string (S (encode ls)))/\Still w w'):=by
 apply amF;refine aQ λw1 aHc hs1 hz1=>?_;refine(asK (B:=w1.heap.size) he hs1 (eE.fresh aHc rfl rfl) rfl (aV _) (by omega) (aV _) hl ht).mono ?_;rintro _ w2 ⟨rfl,cs2,v2,fS,hs2⟩;refine .inl ⟨_,rfl,?_⟩;have hel:=LA (ada ht);refine(Ab fS (by omega)).mono ?_;rintro _ w3 ⟨rfl,cV⟩;refine .inl ⟨_,rfl,rfl,Mod.trans hs2 cV (λ_ h=>h) (λi hi e=>?_)⟩;have:=fS.own.mQ e;omega
end Go.Proofs.YtihaaoehhgmphaaGreatDoor
namespace Go.Proofs.YtihaaoehhgmphaaGreatDoor
open IntKind Go.RowKit Vc
set_option maxRecDepth 100000
variable{w w0:World}
def Tr{g:Nat}{T:Tree}{p:ag}(h:dM w g (rW T))(ok:zw T)(hp:p.length<=1000):aq Ge #[.map (some g),.string (S p)] w (λe w'=>e=.returned (vu (jl T p))/\Still w w'):=by
 apply amj;refine aQ λw1 r1 s1 z1=>?_;refine aA (λhb=>?_) (λhb=>?_)
 .have e:p=[]:=aR hb
  subst e;refine aHb (g:=w.heap.size) (o:=0) r1 λw2 r2 m2 z2=>?_;exact⟨_,_,_,r2.aj rfl,r2.aj rfl,r2.aj rfl,rfl,s1.box (aV _) m2⟩
 .have e:p≠[]:=aX hb
  refine⟨_,_,_,asy (h.still s1) ok hp,?_⟩;refine aHb (g:=w.heap.size) (o:=0) r1 λw2 r2 m2 z2=>?_;refine⟨_,_,_,r2.aj rfl,r2.aj rfl,r2.aj rfl,?_,s1.box (aV _) m2⟩;rw[jl,aG e];rfl
def aKJ(he:Env w){n:Int}(h0:0<=n)(h1:n<=255):aq wF #[.int .i64 n] w (λe w'=>e=.returned (.string (S (dec n.toNat)))/\Still w w'):=by refine(GS he n (by omega) (by omega)).mono ?_;rintro _ w1 ⟨rfl,s1⟩;refine⟨?_,s1⟩;unfold Lib.itoa;rw[aG (by omega)]
def Hz{n:Nat}(h:n<=255):(dec n).length<=20:=by have:=LZ (n:=n) (by omega);omega
def aaq(he:Env w){x:aHX}(hx:By x)(hd:x.d.length<=50000):aq K6 #[vu x] w (λe w'=>(∃s:ag,e=.returned (.string (S s)))/\Still w w'):=by
 apply amW;refine aQ λw1 r1 s1 z1=>?_;refine⟨x.k,r1.aj rfl,aA (λhb=>⟨⟨_,rfl⟩,s1⟩) (λhb=>?_)⟩;have sD:=s1.cy;refine⟨λwq=>Row wq w.heap.size qH ⟨vt x⟩,r1.drew,x.k,λwq hq=>hq.aj rfl,x.m,λwq hq=>hq.aj rfl,x.d,λwq hq=>hq.aj rfl,?_⟩;have hk:0<=x.k/\x.k<=255:=by rcases hx.k with h|h|h<;>omega
 have hm:0<=x.m/\x.m<=255:=by have:=hx.m;omega
 refine(aKJ (he.still sD) hk.1 hk.2).mono ?_;rintro _ w2 ⟨rfl,s2⟩;have dP:=sD.trans s2;refine .inl ⟨_,rfl,r1.drew.still s2,?_⟩;refine(aKJ (he.still dP) hm.1 hm.2).mono ?_;rintro _ w3 ⟨rfl,s3⟩;have aHY:=dP.trans s3;refine .inl ⟨_,rfl,(r1.drew.still s2).still s3,?_⟩;refine aQ λw4 r4 s4 z4=>?_;have lp:=aHY.trans s4;have ra:de w4 (some ⟨w3.heap.size,0,none⟩) 3 [dec x.k.toNat,dec x.m.toNat,x.d]:=de.row r4;have l1:=Hz (n:=x.k.toNat) (by omega);have l2:=Hz (n:=x.m.toNat) (by omega);refine(Lw (he.still lp) ra (by simp only[total,gI,rK,aIO,K3];omega)).mono ?_;rintro _ w5 ⟨rfl,s5⟩;exact .inl ⟨_,rfl,⟨_,rfl⟩,lp.trans s5⟩
structure Tb where
 gt:Nat
 go:Nat
 gr:Nat
 gw:Nat
def ET(T:Tree):Prop:=zw T/\∀x∈T,x.2.d.length<=50000
def Ub{T:Tree}(h:ET T)(p:ag):(jl T p).d.length<=50000:=by
 unfold jl;split
 .exact dK _
 .have:∀{T:Tree},(∀x∈T,x.2.d.length<=50000)->(gi T p).d.length<=50000:=by
   intro T
   induction T with
   |nil=>intro _;exact dK _
   |cons x r ih=>
    intro h;obtain⟨q,e⟩:=x;unfold gi;split
    .exact h (q,e) (by simp)
    .exact ih λy hy=>h y (by simp[hy])
  exact this h.2
def auQ{T:Tree}(h:ET T){p:ag}{e:aHX}(hp:p.length<=1000)(he:By e)(hd:e.d.length<=50000):ET (aIm T p e):=⟨av3 h.1 hp he,λx hx=>by
 rcases LY hx with rfl|hx
 .exact hd
 .exact h.2 x hx⟩
structure AZ(w:World)(B g:Nat)(t:Tb)(n:Nat):Prop where
 top:Row w t.gt Gp ⟨[.map (some t.go),.map (some t.gr),.map (some t.gw)]⟩
 old:∃T,dM w t.go (rW T)/\ET T
 rd:∃l,dM w t.gr (ES l)/\(∀x∈l,x.1.1.length<=1000)/\l.length<=n
 wr:∃l,dM w t.gw (mT l)/\(∀x∈l,x.length<=1000)/\l.length<=n
 low:B<=t.gt/\B<=t.go/\B<=t.gr/\B<=t.gw
 ne:g≠t.go/\g≠t.gr/\g≠t.gw/\t.go≠t.gr/\t.go≠t.gw/\t.gr≠t.gw
structure cU(w:World)(B a g:Nat)(tr:Option Tb)(n:Nat)(T:Tree):Prop where
 top:Row w a jW ⟨[.map (some g),.pointer (tr.map λt=>⟨t.gt,0,none⟩)]⟩
 now:dM w g (rW T)
 eS:ET T
 low:B<=a/\B<=g
 qu:∀t,tr=some t->AZ w B g t n
def SF(a g:Nat)(tr:Option Tb)(k:Nat):Prop:=k=a\/k=g\/∃t,tr=some t/\(k=t.gt\/k=t.go\/k=t.gr\/k=t.gw)
section
variable{B a g n:Nat}{tr:Option Tb}{T:Tree}{w':World}{S:Nat->Prop}
def AZ.mod{t:Tb}(h:AZ w B g t n)(hm:Mod S w w')(h1:¬S t.gt)(h2:¬S t.go)(h3:¬S t.gr)(h4:¬S t.gw):AZ w' B g t n:=by obtain⟨T,o1,o2⟩:=h.old;obtain⟨l,r1,r2⟩:=h.rd;obtain⟨m,p1,p2⟩:=h.wr;exact⟨h.top.mod hm h1,⟨T,o1.mod hm h2,o2⟩,⟨l,r1.mod hm h3,r2⟩,⟨m,p1.mod hm h4,p2⟩,h.low,h.ne⟩
def AZ.up{t:Tb}{m:Nat}(h:AZ w B g t n)(hm:n<=m):AZ w B g t m:=by obtain⟨l,r1,r2,r3⟩:=h.rd;obtain⟨k,p1,p2,p3⟩:=h.wr;exact⟨h.top,h.old,⟨l,r1,r2,by omega⟩,⟨k,p1,p2,by omega⟩,h.low,h.ne⟩
def cU.up{m:Nat}(h:cU w B a g tr n T)(hm:n<=m):cU w B a g tr m T:=⟨h.top,h.now,h.eS,h.low,λt ht=>(h.qu t ht).up hm⟩
def cU.mod(h:cU w B a g tr n T)(hm:Mod S w w')(hS:∀k,SF a g tr k->¬S k):cU w' B a g tr n T:=
 ⟨h.top.mod hm (hS _ (.inl rfl)),h.now.mod hm (hS _ (.inr (.inl rfl))),h.eS,h.low,λt ht=>(h.qu t ht).mod hm (hS _ (.inr (.inr ⟨t,ht,.inl rfl⟩))) (hS _ (.inr (.inr ⟨t,ht,.inr (.inl rfl)⟩))) (hS _ (.inr (.inr ⟨t,ht,.inr (.inr (.inl rfl))⟩))) (hS _ (.inr (.inr ⟨t,ht,.inr (.inr (.inr rfl))⟩)))⟩
def cU.still(h:cU w B a g tr n T)(hm:Still w w'):cU w' B a g tr n T:=h.mod hm λ_ _ h=>h
def cU.k6(h:cU w B a g tr n T){k:Nat}(hk:SF a g tr k):B<=k/\k<w.heap.size:=by
 rcases hk with rfl|rfl|⟨t,ht,hk⟩
 .exact⟨h.low.1,h.top.lt⟩
 .exact⟨h.low.2,h.now.lt⟩
 .have d:=h.qu t ht
  obtain⟨_,o1,_⟩:=d.old;obtain⟨_,r1,_⟩:=d.rd;obtain⟨_,p1,_⟩:=d.wr;rcases hk with rfl|rfl|rfl|rfl
  .exact⟨d.low.1,d.top.lt⟩
  .exact⟨d.low.2.1,o1.lt⟩
  .exact⟨d.low.2.2.1,r1.lt⟩
  .exact⟨d.low.2.2.2,p1.lt⟩
def cU.stays(h:cU w w0.heap.size a g tr n T)(h0:Still w0 w)(hm:Mod (SF a g tr) w w'):Still w0 w':=Mod.trans h0 hm (λ_ h=>h) (λi hi hk=>by have:=(h.k6 hk).1;omega)
def Tb.apart{t:Tb}(h:AZ w B g t n):t.gt≠t.go/\t.gt≠t.gr/\t.gt≠t.gw:=by obtain⟨_,o1,_⟩:=h.old;obtain⟨_,r1,_⟩:=h.rd;obtain⟨_,p1,_⟩:=h.wr;exact⟨(o1.aHg h.top).symm,(r1.aHg h.top).symm,(p1.aHg h.top).symm⟩
end
def RF(tr:Option Tb)(k:Nat):Prop:=∃t,tr=some t/\k=t.gr
def WF(g:Nat)(tr:Option Tb)(k:Nat):Prop:=k=g\/∃t,tr=some t/\(k=t.gr\/k=t.gw)
def RF.sf{a g:Nat}{tr:Option Tb}{k:Nat}(h:RF tr k):SF a g tr k:=by obtain⟨t,ht,rfl⟩:=h;exact .inr (.inr ⟨t,ht,.inr (.inr (.inl rfl))⟩)
def WF.sf{a g:Nat}{tr:Option Tb}{k:Nat}(h:WF g tr k):SF a g tr k:=by
 rcases h with rfl|⟨t,ht,rfl|rfl⟩
 .exact .inr (.inl rfl)
 .exact .inr (.inr ⟨t,ht,.inr (.inr (.inl rfl))⟩)
 .exact .inr (.inr ⟨t,ht,.inr (.inr (.inr rfl))⟩)
def apL(he:Env w){g:Nat}{T:Tree}{p:ag}(h:dM w g (rW T))(eS:ET T)(hp:p.length<=1000):aq QI #[.map (some g),ER (p,false)] w (λe w'=>(∃s:ag,e=.returned (.string (S s)))/\Still w w'):=by apply als;refine aQ λw1 r1 s1 z1=>?_;refine⟨_,r1.aj rfl,?_⟩;refine⟨_,r1.aj rfl,(Tr (h.still s1) eS.1 hp).mono ?_⟩;rintro _ w2 ⟨rfl,s2⟩;refine .inl ⟨_,_,_,rfl,(aaq (he.still (s1.trans s2)) (UD eS.1 p) (Ub eS p)).mono ?_⟩;rintro _ w3 ⟨⟨s,rfl⟩,s3⟩;exact .inl ⟨_,rfl,⟨_,rfl⟩,(s1.trans s2).trans s3⟩
def adn(w:World):(zeroValue cm).run aM w=.ok (.string (S [])) w:=rfl
def asL(w:World):(zeroValue 4).run aM w=.ok (.bool false) w:=rfl
def asM(he:Env w0)(h0:Still w0 w){a g n:Nat}{tr:Option Tb}{T:Tree}(h:cU w w0.heap.size a g tr n T){p:ag}(hp:p.length<=1000):
  aq QF #[.pointer (some ⟨a,0,none⟩),ER (p,false)] w (λe w'=>e=.returned (.tuple #[])/\cU w' w0.heap.size a g tr (n+1) T/\Mod (RF tr) w w'):=by
 apply alr;refine aQ λw1 r1 s1 z1=>?_;have sD:=s1.cy;have hD:=h.still sD;have vT:=r1.drew;refine⟨λw2=>w2=w1.drew/\tr≠none,⟨λb w2=>w2=w1.drew/\(b=false->tr≠none),⟨λwq=>Row wq a jW ⟨[.map (some g),.pointer (tr.map λt=>⟨t.gt,0,none⟩)]⟩/\Row wq w.heap.size qF ⟨[.string (S p),.bool false]⟩/\∀t,tr=some t->Row wq t.gt Gp ⟨[.map (some t.go),.map (some t.gr),.map (some t.gw)]⟩,⟨hD.top,vT,λt ht=>(hD.qu t ht).top⟩,?_⟩,?_⟩,?_⟩
 .refine⟨_,λwq hq=>hq.1.aj rfl,?_⟩
  cases tr with
  |none=>exact⟨rfl,λh=>by cases h⟩
  |some t=>
   have d:=hD.qu t rfl;obtain⟨l,p1,p2,p3⟩:=d.wr;refine⟨false,λwq hq=>hq.2.1.aj rfl,_,λwq hq=>hq.1.aj rfl,_,rfl,λwq hq=>(hq.2.2 t rfl).aj rfl,_,λwq hq=>hq.2.1.aj rfl,?_⟩;rcases Ee wX UE (asL _) p1 (rR rfl (qJ hp)) (T3 p2) false with⟨v,h1,h2⟩|⟨h1,h2⟩
   .obtain⟨x,hx,e⟩:=dY.1 h1
    obtain⟨_,rfl⟩:=aJ5 e;exact⟨_,h2,rfl,λ_=>by simp⟩
   .exact⟨_,h2,rfl,λ_=>by simp⟩
 .rintro b _ w2 ⟨rfl,hb⟩
  cases b with
  |true=>exact⟨rfl,hD.up (B6 n),sD.weaken λ_ h=>h.elim⟩
  |false=>exact⟨rfl,hb rfl⟩
 .rintro _ w3 ⟨rfl,hb⟩
  obtain⟨t,rfl⟩:=Option.ne_none_iff_exists'.1 hb;have d:=hD.qu t rfl;obtain⟨l,q1,q2,q3⟩:=d.rd;obtain⟨To,o1,o2⟩:=d.old;have sDD:=sD.cy;have h2:=hD.still (Still.refl _).cy;refine⟨λwq=>Row wq a jW ⟨[.map (some g),.pointer (some ⟨t.gt,0,none⟩)]⟩/\Row wq w.heap.size qF ⟨[.string (S p),.bool false]⟩/\Row wq t.gt Gp ⟨[.map (some t.go),.map (some t.gr),.map (some t.gw)]⟩,⟨h2.top,vT.drew,(h2.qu t rfl).top⟩,_,λwq hq=>hq.1.aj rfl,_,rfl,λwq hq=>hq.2.2.aj rfl,_,_,λwq hq=>hq.2.1.aj rfl,λwq hq=>hq.2.1.aj rfl,?_⟩;obtain⟨lk,hlk⟩:=aef (f:=(p,false)) hp;rcases Ee aeg afc (adn _) ((q1.still (Still.refl _).cy)) hlk (aeh q2) true with⟨v,h3,h4⟩|⟨h3,h4⟩
  .obtain⟨x,hx,e⟩:=dY.1 h3
   obtain⟨_,rfl⟩:=aJ5 e;exact⟨_,_,h4,rfl,h2.up (B6 n),sDD.weaken λ_ h=>h.elim⟩
  .refine⟨_,_,h4,?_⟩
   have agY:=sDD.cy;have h5:=h2.still (Still.refl _).cy;refine⟨λwq=>Row wq a jW ⟨[.map (some g),.pointer (some ⟨t.gt,0,none⟩)]⟩/\Row wq w.heap.size qF ⟨[.string (S p),.bool false]⟩/\Row wq t.gt Gp ⟨[.map (some t.go),.map (some t.gr),.map (some t.gw)]⟩,⟨h5.top,vT.drew.drew,(h5.qu t rfl).top⟩,_,λwq hq=>hq.1.aj rfl,_,rfl,λwq hq=>hq.2.2.aj rfl,_,_,λwq hq=>hq.2.1.aj rfl,λwq hq=>hq.2.1.aj rfl,_,λwq hq=>hq.1.aj rfl,_,rfl,λwq hq=>hq.2.2.aj rfl,_,_,λwq hq=>hq.2.1.aj rfl,λwq hq=>hq.2.1.aj rfl,?_⟩;have o3:=(o1.still (Still.refl _).cy).still (Still.refl _).cy;refine(apL (he.still (h0.trans agY)) o3 o2 hp).mono ?_;rintro _ w4 ⟨⟨s,rfl⟩,s4⟩;have h6:=h5.still s4;refine .inl ⟨_,rfl,⟨h6.top,(vT.drew.drew).still s4,(h6.qu t rfl).top⟩,?_⟩;have d6:=h6.qu t rfl;have q6:=((q1.still (Still.refl _).cy).still (Still.refl _).cy).still s4;obtain⟨w5,u1,u2,u3,u4⟩:=ME aeg afc q6 hlk (aeh q2) h3 (.string (S s));have ap:=Tb.apart d6;refine⟨w5,u1,rfl,⟨h6.top.mod u3 (λe=>?_),h6.now.mod u3 d6.ne.2.1,h6.eS,h6.low,λt' ht'=>?_⟩,?_⟩
   .exact(q6.aHg h6.top) e.symm
   .obtain rfl:=bU ht'
    obtain⟨m,p1,p2,p3⟩:=d6.wr;obtain⟨To',o4,o5⟩:=d6.old;refine⟨d6.top.mod u3 ap.2.1,⟨To',o4.mod u3 d6.ne.2.2.2.1,o5⟩,⟨l++[((p,false),s)],by simpa[ES]using u2,λx hx=>?_,by simp;omega⟩,⟨m,p1.mod u3 (λe=>d6.ne.2.2.2.2.2 e.symm),p2,by omega⟩,d6.low,d6.ne⟩;rcases kW.1 hx with hx|hx
    .exact q2 x hx
    .obtain rfl:=gE.1 hx
     exact hp
   .exact Mod.trans (agY.trans s4) u3 (λ_ h=>h.elim) (λi _ e=>⟨t,rfl,e⟩)
def Uc(he:Env w0)(h0:Still w0 w){a g n:Nat}{tr:Option Tb}{T:Tree}(h:cU w w0.heap.size a g tr n T){p:ag}(hp:p.length<=1000):
  aq qE #[.pointer (some ⟨a,0,none⟩),.string (S p)] w (λe w'=>e=.returned (vu (jl T p))/\cU w' w0.heap.size a g tr (n+1) T/\Mod (RF tr) w w'):=by
 apply al8;refine aQ λw1 r1 s1 z1=>?_;refine(asM he (h0.trans s1) (h.still s1) hp).mono ?_;rintro _ w2 ⟨rfl,h2,m2⟩;have hr:¬RF tr w.heap.size:=λhk=>by have:=(h.k6 (RF.sf hk)).2;omega
 have r2:=r1.mod m2 hr;refine .inl ⟨rfl,_,rfl,h2.top.aj rfl,(Tr h2.now h2.eS.1 hp).mono ?_⟩;rintro _ w3 ⟨rfl,s3⟩;refine .inl ⟨_,_,_,rfl,aHb (g:=w.heap.size) (o:=0) (r2.still s3) λw4 r4 m4 z4=>?_⟩;have m3:Mod (RF tr) w w3:=Mod.trans (Mod.trans s1 m2 (λ_ h=>h.elim) (λ_ _ h=>h)) s3 (λ_ h=>h) (λ_ _ h=>h.elim);refine⟨_,_,_,r4.aj rfl,r4.aj rfl,r4.aj rfl,rfl,(h2.still s3).mod m4 (λk hk e=>?_),Mod.trans m3 m4 (λ_ h=>h) (λi hi e=>by omega)⟩;have:=(h.k6 hk).2;omega
def auR(he:Env w0)(h0:Still w0 w){a g n:Nat}{tr:Option Tb}{T:Tree}(h:cU w w0.heap.size a g tr n T){p:ag}(hp:p.length<=1000)(hne:p≠[]){x:aHX}(hx:By x)(hk:x.k≠0)(hd:x.d.length<=50000):
  aq QY #[.pointer (some ⟨a,0,none⟩),.string (S p),vu x] w (λe w'=>e=.returned (.tuple #[])/\cU w' w0.heap.size a g tr (n+1) (aIm T p x)/\Mod (WF g tr) w w'):=by
 apply alO;refine aQ λw1 r1 s1 z1=>?_;have h1:=h.still s1;refine aA (λhb=>absurd (aR hb) hne) (λ_=>?_);refine⟨λw3=>cU w3 w0.heap.size a g tr (n+1) T/\Mod (WF g tr) w w3/\Row w3 w.heap.size qH ⟨vt x⟩,?_,?_⟩
 .refine⟨_,h1.top.aj rfl,?_⟩
  cases tr with
  |none=>exact⟨h1.up (B6 n),s1.weaken λ_ h=>h.elim,r1⟩
  |some t=>
   have d:=h1.qu t rfl;obtain⟨l,p1,p2,p3⟩:=d.wr;refine⟨_,h1.top.aj rfl,_,rfl,d.top.aj rfl,?_⟩;have ap:=Tb.apart d;have fin:∀(l':List ag) (w2:World),dM w2 t.gw (mT l')->(∀x∈l',x.length<=1000)->l'.length<=n+1->Mod (λk=>k=t.gw) w1 w2->cU w2 w0.heap.size a g (some t) (n+1) T/\Mod (WF g (some t)) w w2/\Row w2 w.heap.size qH ⟨vt x⟩:=by intro l' w2 a1 a2 a3 u3;obtain⟨To,o4,o5⟩:=d.old;obtain⟨m,q1,q2,q3⟩:=d.rd;refine⟨⟨h1.top.mod u3 λe=>(p1.aHg h1.top) e.symm,h1.now.mod u3 d.ne.2.2.1,h1.eS,h1.low,λt' ht'=>?_⟩,Mod.trans s1 u3 (λ_ h=>h.elim) (λi _ e=>.inr ⟨t,rfl,.inr e⟩),r1.mod u3 λe=>(p1.aHg r1) e.symm⟩;obtain rfl:=bU ht';exact⟨d.top.mod u3 ap.2.2,⟨To,o4.mod u3 d.ne.2.2.2.2.1,o5⟩,⟨m,q1.mod u3 d.ne.2.2.2.2.2,q2,by omega⟩,⟨l',a1,a2,a3⟩,d.low,d.ne⟩
   by_cases hin:p∈l
   .obtain⟨l1,l2,rfl⟩:=List.append_of_mem hin
    have hw:=T3 p2;simp only[mT,wD,gI]at p1 hw;obtain⟨w2,u1,u2,u3,u4⟩:=afb wX UE p1 (rR rfl (qJ hp)) hw (.bool true);exact⟨w2,u1,fin (l1++p::l2) w2 (by simpa[mT]using u2) p2 (by omega) u3⟩
   .obtain⟨w2,u1,u2,u3,u4⟩:=ME wX UE p1 (rR rfl (qJ hp)) (T3 p2) (λq hq e=>by
     obtain⟨y,hy,rfl⟩:=dY.1 hq;exact hin (by rw[<-str_inj e];exact hy)) (.bool true)
    refine⟨w2,u1,fin (l++[p]) w2 (by simpa[mT]using u2) (λy hy=>?_) (by simp;omega) u3⟩;rcases kW.1 hy with hy|hy
    .exact p2 y hy
    .obtain rfl:=gE.1 hy
     exact hp
 .rintro _ w3 ⟨h3,m3,r3⟩
  refine⟨_,r3.aj rfl,aA (λhb=>absurd (aR hb) hk) (λ_=>?_)⟩;have ng:=h3.still (Still.refl _).cy;have r3D:=r3.drew;refine⟨λwq=>Row wq a jW ⟨[.map (some g),.pointer (tr.map λt=>⟨t.gt,0,none⟩)]⟩/\Row wq w.heap.size qH ⟨vt x⟩,⟨ng.top,r3D⟩,_,rfl,λwq hq=>hq.1.aj rfl,_,_,_,λwq hq=>hq.2.aj rfl,λwq hq=>hq.2.aj rfl,λwq hq=>hq.2.aj rfl,?_⟩;obtain⟨w4,u1,u2,u3,u4⟩:=auv ng.now ng.eS.1 hp x;refine⟨w4,u1,rfl,⟨ng.top.mod u3 λe=>(ng.now.aHg ng.top) e.symm,u2,auQ ng.eS hp hx hd,ng.low,λt ht=>?_⟩,Mod.trans m3.drew u3 (λ_ h=>h) (λi _ e=>.inl e)⟩;have d:=ng.qu t ht;exact d.mod u3 (λe=>(ng.now.aHg d.top) e.symm) (λe=>d.ne.1 e.symm) (λe=>d.ne.2.1 e.symm) (λe=>d.ne.2.2.1 e.symm)
def acn:LX aM RS:=⟨_,Tryz.func336,by kernel_rfl,by kernel_rfl,by kernel_rfl,by kernel_rfl⟩
def apM{g:Nat}{es:List KV}(h:dM w g es):aq Pn #[.map (some g)] w (λe w'=>e=.returned (.map (some w.heap.size))/\dM w' w.heap.size es/\Still w w'/\w'.heap.size=w.heap.size+1):=by apply ajx;obtain⟨ms,c,hg,hG⟩:=h;refine⟨acn,ms,c,hg,nS ⟨rfl,hG.copy w,(Mod.refl _ _).alloc _,World.size_alloc ..⟩⟩
def apN{g:Nat}{es:List KV}(h:dM w g es):aq Pk #[.map (some g)] w (λe w'=>e=.returned (.map (some w.heap.size))/\dM w' w.heap.size es/\Still w w'/\w'.heap.size=w.heap.size+1):=by apply aju;obtain⟨ms,c,hg,hG⟩:=h;refine⟨acn,ms,c,hg,nS ⟨rfl,hG.copy w,(Mod.refl _ _).alloc _,World.size_alloc ..⟩⟩
def SU:aq Gs #[] w (λe w'=>e=.returned (.pointer (some ⟨w.heap.size+1,0,none⟩))/\cU w' w.heap.size (w.heap.size+1) w.heap.size none 0 []/\Still w w'/\w'.heap.size=w.heap.size+2):=by apply anK;have s1:Still w (w.alloc (.map #[] 0)):=(Mod.refl _ _).alloc _;have m1:=dM.new w;have z1:(w.alloc (.map #[] 0)).heap.size=w.heap.size+1:=World.size_alloc ..;refine nS ?_;generalize w.alloc (.map #[] 0)=w1 at*;refine aQ λw2 r2 s2 z2=>?_;rw[z1]at r2;refine⟨by show Ending.returned (.pointer (some ⟨w1.heap.size,0,none⟩))=_;rw[z1],⟨r2,m1.still s2,⟨λx hx=>(by cases hx),λx hx=>(by cases hx)⟩,⟨by omega,aV _⟩,λt ht=>(by cases ht)⟩,s1.trans s2,by omega⟩
def aa9{a g n:Nat}{T:Tree}(h:cU w w0.heap.size a g none n T)(h0:Still w0 w):
  aq Kw #[.pointer (some ⟨a,0,none⟩)] w (λe w'=>e=.returned (.tuple #[])/\∃t,cU w' w0.heap.size a g (some t) 0 T/\Mod (λk=>k=a) w w'/\w.heap.size<=t.gt/\w.heap.size<=t.go/\w.heap.size<=t.gr/\w.heap.size<=t.gw):=by
 apply alh;refine⟨_,rfl,h.top.aj rfl,(apM h.now).mono ?_⟩;rintro _ w1 ⟨rfl,o1,s1,z1⟩;refine .inl ⟨_,rfl,rfl,nS ?_⟩;have s2:Still w1 (w1.alloc (.map #[] 0)):=(Mod.refl _ _).alloc _;have r2:=dM.new w1;have z2:(w1.alloc (.map #[] 0)).heap.size=w1.heap.size+1:=World.size_alloc ..;generalize w1.alloc (.map #[] 0)=w2 at*;refine nS ?_;have s3:Still w2 (w2.alloc (.map #[] 0)):=(Mod.refl _ _).alloc _;have p3:=dM.new w2;have z3:(w2.alloc (.map #[] 0)).heap.size=w2.heap.size+1:=World.size_alloc ..;generalize w2.alloc (.map #[] 0)=w3 at*;refine Vx rfl (aQ λw4 r4 s4 z4=>?_);have lq:Still w w4:=((s1.trans s2).trans s3).trans s4;have h4:=h.still lq;refine aHb (g:=a) (o:=1) h4.top λw5 r5 m5 z5=>?_;have hz:=h0.size;have la:=h.top.lt;have lg:=h.now.lt;refine⟨rfl,⟨w3.heap.size,w.heap.size,w1.heap.size,w2.heap.size⟩,⟨r5,h4.now.mod m5 (λe=>h4.now.aHg h4.top e),h.eS,h.low,λt ht=>?_⟩,Mod.trans lq m5 (λ_ h=>h.elim) (λ_ _ h=>h),by dsimp only;omega,aV _,by dsimp only;omega,by dsimp only;omega⟩;obtain rfl:=bU ht;refine⟨r4.mod m5 (by omega),⟨T,(((o1.still s2).still s3).still s4).mod m5 (by omega),h.eS⟩,⟨[],((r2.still s3).still s4).mod m5 (by omega),λx hx=>(by cases hx),dK _⟩,⟨[],(p3.still s4).mod m5 (by omega),λx hx=>(by cases hx),dK _⟩,⟨by dsimp only;omega,by dsimp only;omega,by dsimp only;omega,by dsimp only;omega⟩,?_⟩;dsimp only;refine⟨by omega,by omega,by omega,by omega,by omega,by omega⟩
def auS(n:Nat)(hn:n<=1000000):aq Zb #[.int .u64 (n:Int)] w (λe w'=>(∃l:Int,e=.returned (.int .i64 l))/\w'=w):=
 (Tryz.bits_Len (n:Int) w (by omega) (by omega)).mono λ_ _ h=>⟨⟨_,h.1⟩,h.2⟩
def lu(x:ag×Bool×ag):List Value:=[.string (S x.1),.bool x.2.1,.string (S x.2.2)]
def aa_(x:ag):aq KA #[.string (S x)] w (λe w'=>e=.returned (.bool false)/\w'=w):=by apply alw;simp[YN,zR]
def aar(x:Int):aq KS #[.int .i64 x] w (λe w'=>e=.returned (.bool false)/\w'=w):=by apply amr;simp[Zf,zR]
def aoy(x y:ag):aq Qq #[.string (S x),.string (S y)] w (λe w'=>(∃n:Int,e=.returned (.int .i64 n))/\w'=w):=by refine ak0 _ _ _ _ ((aa_ x).mono ?_);rintro _ _ ⟨rfl,rfl⟩;refine .inl ⟨_,rfl,(aa_ y).mono ?_⟩;rintro _ _ ⟨rfl,rfl⟩;exact .inl ⟨_,rfl,(show an (Op.bytesLess x y) _ (an (!(Op.bytesLess x y||decide (x=y))) _ _)from aA (λ_=>⟨⟨_,rfl⟩,rfl⟩) (λ_=>aA (λ_=>⟨⟨_,rfl⟩,rfl⟩) (λ_=>⟨⟨_,rfl⟩,rfl⟩)))⟩
def aoz(x y:Int):aq Q2 #[.int .i64 x,.int .i64 y] w (λe w'=>(∃n:Int,e=.returned (.int .i64 n))/\w'=w):=by refine alS _ _ _ _ ((aar x).mono ?_);rintro _ _ ⟨rfl,rfl⟩;refine .inl ⟨_,rfl,(aar y).mono ?_⟩;rintro _ _ ⟨rfl,rfl⟩;exact .inl ⟨_,rfl,(show an (decide (x<y)) _ (an (decide (y<x)) _ _)from aA (λ_=>⟨⟨_,rfl⟩,rfl⟩) (λ_=>aA (λ_=>⟨⟨_,rfl⟩,rfl⟩) (λ_=>⟨⟨_,rfl⟩,rfl⟩)))⟩
def aba(b:Bool):aq K9 #[.bool b] w (λe w'=>(∃n:Int,e=.returned (.int .i64 n))/\w'=w):=by apply am1;exact aA (λ_=>⟨⟨_,rfl⟩,rfl⟩) (λ_=>⟨⟨_,rfl⟩,rfl⟩)
def asN(x y:ag×Bool×ag):aq aJ6 #[.agg ⟨lu x⟩,.agg ⟨lu y⟩] w (λe w'=>(∃n:Int,e=.returned (.int .i64 n))/\Still w w'):=by
 apply anp;refine aQ λw1 r1 s1 z1=>aQ λw2 r2 s2 z2=>?_;have sD:=(s1.trans s2).cy;have vT:=(r1.still s2).drew;have WO:=r2.drew;refine⟨λwq=>Row wq w.heap.size 321 ⟨lu x⟩/\Row wq w1.heap.size 321 ⟨lu y⟩,⟨vT,WO⟩,_,λwq hq=>hq.1.aj rfl,_,λwq hq=>hq.2.aj rfl,_,λwq hq=>hq.1.aj rfl,_,λwq hq=>hq.2.aj rfl,(aoy _ _).mono ?_⟩;rintro _ _ ⟨⟨n1,rfl⟩,rfl⟩;refine .inl ⟨_,rfl,⟨vT,WO⟩,(aba _).mono ?_⟩;rintro _ _ ⟨⟨n2,rfl⟩,rfl⟩;refine .inl ⟨_,rfl,⟨vT,WO⟩,(aba _).mono ?_⟩;rintro _ _ ⟨⟨n3,rfl⟩,rfl⟩;refine .inl ⟨_,rfl,(aoz _ _).mono ?_⟩;rintro _ _ ⟨⟨n4,rfl⟩,rfl⟩;refine .inl ⟨_,rfl,aQ λw3 r3 s3 z3=>?_⟩;refine(show aq RU #[.slice (some ⟨w2.drew.heap.size,0,none⟩) 2 2] w3 (λe w'=>(∃n:Int,e=.returned (.int .i64 n))/\w'=w3)from ?_).mono ?_
 .apply ans
  refine⟨λk w4=>0<=k/\k<=2/\w4=w3,λk _=>(2-k).toNat,⟨by decide,by decide,rfl⟩,?_⟩;rintro k _ w4 ⟨h1,h2,rfl⟩;refine aA (λhk=>?_) (λ_=>⟨⟨_,rfl⟩,rfl⟩);have hk:k<2:=by simpa using hk
  have e:k=0\/k=1:=by omega
  have hv:∃v:Int,w4.cell? ((Addr.mk w2.drew.heap.size 0 none).add (k.toNat*1))=some (.int .i64 v):=by
   rw[aHa];rcases e with rfl|rfl
   .exact⟨_,r3.aj rfl⟩
   .exact⟨_,r3.aj rfl⟩
  obtain⟨v,hv⟩:=hv;refine⟨h1,by simpa using hk,v,hv,aA (λ_=>⟨⟨_,rfl⟩,rfl⟩) (λ_=>?_)⟩;rw[wrap_i64 (by omega) (by omega)];refine⟨⟨by omega,by omega,rfl⟩,by dsimp only;omega⟩
 .rintro _ _ ⟨⟨n,rfl⟩,rfl⟩
  exact .inl ⟨_,rfl,⟨_,rfl⟩,sD.trans s3⟩
def ir(l:List ag):List ag:=l.mergeSort λx y=>decide (x<=y)
def Aj(l:List ag):(ir l).length=l.length:=List.length_mergeSort l
def aco{B:Nat}{p:Option Addr}{c:Nat}{l:List ag}(h:aS w B cm 1 (.slice p l.length c) l.length (strs l))(hl:l.length<=1000000):
  aq PD #[.slice p l.length c] w λe w'=>e=.returned (.tuple #[])/\aS w' B cm 1 (.slice p l.length c) l.length (strs (ir l))/\Mod (λk=>(Value.slice p l.length c).ownBlock=some k) w w':=by
 by_cases h0:l.length=0
 .obtain rfl:=pU h0
  refine(Tryz.slices_Sort_string_none p c w).mono ?_;rintro _ _ ⟨rfl,rfl⟩;exact⟨rfl,by simpa[ir]using h,Mod.refl _ _⟩
 .obtain⟨g,cap,cur,hv,hb,⟨fz,hr,hf⟩,hc,hsz,ht⟩:=h.row (by omega)
  injection hv with e1 e2 e3;subst e1 e3;have hcap:c<=maxLen:=by
   rcases h.2 with⟨e,_⟩|⟨g',cap',cur',e,_,_,_,hm,_⟩
   .cases e
   .injection e with e1 e2 e3;omega
  rw[aHp]at ht hsz;have hH:Sort.Holds Go.Proofs.encStr w g 0 l.toArray:=by
   intro j hj;have hj':j<l.length:=by simpa using hj
   have h1:cur.toList[j]?=(strs l)[j]?:=by rw[<-ht,Ya hj']
   refine⟨?_,?_⟩
   .have:=(show Row w g cm cur from⟨fz,hr,hf⟩).cell j
    rw[cQ,this,<-Kh,h1];simp[strs,hj',Go.Proofs.encStr]
   .rw[cQ]
    exact(show Row w g cm cur from⟨fz,hr,hf⟩).frozen (by omega)
  have:=Tryz.slices_Sort_string g 0 c l w hH (aH0.1 hr).1 (by omega);refine this.mono ?_;rintro _ w' ⟨rfl,n,os,rfl⟩;have hg:=Go.grownBy_sorted (w:=w) (g:=g) (n:=n) (os:=os) (ir l).toArray;refine⟨rfl,⟨by simp[Lt,Aj],.inr ⟨g,c,_,rfl,hb,⟨fz,Go.heap_sorted _ hr,?_⟩,hc,hcap,by simp[Sort.putCells,hsz],?_⟩⟩,(Mod.refl _ _).grown hg λk hk=>.inl hk⟩
  .simpa[Iw,Sort.putCells]using hf
  .have h2:=Go.take_putCells cur (ir l) (by rw[Aj];omega)
   rw[Aj]at h2;rw[aHp];exact h2
def asO{gm:Nat}{l:List ag}(hm:dM w gm (mT l)):aq Po #[.map (some gm)] w λe w'=>∃c0,e=.returned (.func (.func FN) #[] ⟨[.pointer (some ⟨c0,0,none⟩)]⟩)/\Row w' c0 Q3 ⟨[.map (some gm)]⟩/\Still w w':=by apply ajy;exact aQ λw1 r1 s1 z1=>⟨_,rfl,r1,s1⟩
def apO{f:FuncId}{cap:List Value}{l:List ag}{D:Nat->Prop}(hf:dD aM f=true)(hs:U1 f cap w l D)(hD:∀i,D i->i<w.heap.size)(hl:l.length<=1000000):
  aq P0 #[.func (.func f) #[] ⟨cap⟩] w λe w'=>∃l' p c,l'.Perm l/\e=.returned (.slice p l'.length c)/\aS w' w.heap.size cm 1 (.slice p l'.length c) l'.length (strs (ir l'))/\Still w w':=by
 apply akg;refine(show aq Ka #[.func (.func f) #[] ⟨cap⟩] w (λe w'=>∃l' p c,l'.Perm l/\e=.returned (.slice p l'.length c)/\aS w' w.heap.size cm 1 (.slice p l'.length c) l'.length (strs l')/\Still w w')from ?_).mono ?_
 .apply aj8
  refine(aob hf hs hD hl).mono ?_;rintro _ w1 ⟨l',p,c,hp,rfl,ho,hst⟩;exact .inl ⟨_,_,_,rfl,l',p,c,hp,rfl,ho,hst⟩
 .rintro _ w1 ⟨l',p,c,hp,rfl,ho,hst⟩
  refine .inl ⟨_,_,_,rfl,(aco ho (by rw[hp.length_eq];exact hl)).mono ?_⟩;rintro _ w2 ⟨rfl,cc,m2⟩;exact .inl ⟨rfl,l',p,c,hp,rfl,cc,hst.own ho (aV _) m2⟩
abbrev Js:TypeId:=321
def qj(l:List (ag×Bool×ag)):List Value:=l.flatMap lu
def aIT(x:ag×Bool×ag):(lu x).length=3:=rfl
def aer(x:ag×Bool×ag):∀u∈lu x,u.oneCell'=true:=by intro u hu;simp[lu]at hu;rcases hu with rfl|rfl|rfl<;>rfl
def aHU(w:World)(g n c:Nat):Prop:=∃l:List (ag×Bool×ag),l.length=n/\aS w 0 Js 3 (.slice (some ⟨g,0,none⟩) n c) n (qj l)
def aHU.cell{g n c:Nat}(h:aHU w g n c){j:Nat}(hj:j<n):∃x:ag×Bool×ag,w.cell? ⟨g,j*3,none⟩=some (.string (S x.1))/\w.cell? ⟨g,j*3+1,none⟩=some (.bool x.2.1)/\w.cell? ⟨g,j*3+2,none⟩=some (.string (S x.2.2)):=by
 obtain⟨l,rfl,ho⟩:=h;have hx:l[j]?=some l[j]:=gW hj;refine⟨l[j],?_,?_,?_⟩
 .have:=Ed (f:=lu) aIT hx 0 (by decide)
  exact ho.cells rfl (j*3+0) _ (by rw[qj,this];rfl)
 .have:=Ed (f:=lu) aIT hx 1 (by decide)
  exact ho.cells rfl (j*3+1) _ (by rw[qj,this];rfl)
 .have:=Ed (f:=lu) aIT hx 2 (by decide)
  exact ho.cells rfl (j*3+2) _ (by rw[qj,this];rfl)
def aHU.mod{w':World}{S:Nat->Prop}{g n c:Nat}(h:aHU w g n c)(hm:Mod S w w')(hg:¬S g):aHU w' g n c:=by obtain⟨l,h1,h2⟩:=h;exact⟨l,h1,h2.mod hm λk hk=>by cases hk;exact hg⟩
def ado(cs:List Value):∀(o:Nat) (vs:List Value),o+vs.length<=cs.length->fh cs o vs=cs.take o++vs++cs.drop (o+vs.length):=by
 intro o vs
 induction vs generalizing cs o with
 |nil=>intro _;simp[fh]
 |cons v vs ih=>
  intro h;simp only[bf]at h;rw[fh,ih (cs.set o v) (o+1) (by simp;omega)];apply aIh;intro j;simp only[Kj,aJ2,DG,aHl,cB,DN,bf,zY,Qs]
  grind
def auT{l:List (ag×Bool×ag)}{j:Nat}{x:ag×Bool×ag}(hj:j<l.length):qj (l.set j x)=(qj l).take (j*3)++lu x++(qj l).drop (j*3+3):=by
 induction l generalizing j with
 |nil=>simp at hj
 |cons a r ih=>
  cases j with
  |zero=>simp[qj,lu]
  |succ j=>
   have h:=ih (j:=j) (by simpa using hj);have e1:(j+1)*3=3+j*3:=by omega
   simp only[qj,List.set_cons_succ,pW]at h⊢;rw[h,e1];have e2:∀(t:List Value) (k:Nat),(lu a++t).take (3+k)=lu a++t.take k:=λt k=>by rw[List.take_append,aIT,show 3+k-3=k by omega,wu (by rw[aIT];omega)]
   have e3:∀(t:List Value) (k:Nat),(lu a++t).drop (3+k)=t.drop k:=λt k=>by rw[List.drop_append,aIT];simp[lu]
   rw[e2,Gj,e3];simp
def aHU.store{g n c:Nat}(h:aHU w g n c){j:Nat}(hj:j<n)(x:ag×Bool×ag){K:World->Prop}(hK:∀w',aHU w' g n c->Mod (λk=>k=g) w w'->w'.heap.size=w.heap.size->K w'):cJ (Addr.mk g (j*3) none) K 0 (lu x) w:=by
 obtain⟨l,rfl,ho⟩:=h;have hpos:0<l.length:=by omega
 obtain⟨g',cap,cur,hv,hb,hr,hc,hsz,ht⟩:=ho.row hpos;injection hv with e1 e2 e3;injection e1 with e1;injection e1 with e1;subst e1 e3;have hcap:c<=maxLen:=by
  rcases ho.2 with⟨e,_⟩|⟨g2,cap',cur',e,_,_,_,hm,_⟩
  .cases e
  .injection e with e1 e2 e3;omega
 have hr':Row w g Js ⟨cur.toList⟩:=by simpa using hr
 have hlen:cur.toList.length=c*3:=by simpa using hsz
 refine dO (g:=g) (o:=j*3) hr' (by rw[aIT,hlen];omega) (aer x) λw' r' m' z'=>hK w' ⟨l.set j x,by simp,?_⟩ m' z';rw[ado _ _ _ (by rw[aIT,hlen];omega),aIT]at r';refine⟨by rw[qj,ac5 aIT];simp,.inr ⟨g,c,_,rfl,hb,r',hc,hcap,?_,?_⟩⟩
 .simp only[wB,cB,aHl,ig,aIT,hlen]
  omega
 .rw[auT hj,<-ht]
  have e5:l.length*3=j*3+3+(l.length*3-(j*3+3)):=by omega
  apply aIh;intro i;simp only[Kj,aJ2,DG,aHl,cB,aIT,hlen]
  grind
def asP{fn:FuncId}{K:FuncId->List Value->List Value->Prop}(h:K fn [] []):gu (.func (.func fn) #[] #[]) K:=h
def aoA:dD aM aJ6=true:=by kernel_rfl
def aq4{g n c:Nat}(h:aHU w g n c)(hn:n<=12):aq J1 #[.slice (some ⟨g,0,none⟩) n c,.int .i64 0,.int .i64 (n:Int),.func (.func aJ6) #[] #[]] w λe w'=>e=.returned (.tuple #[])/\aHU w' g n c/\Mod (λk=>k=g) w w':=by
 apply XR;have e0:i64.wrap ((0:Int)+1)=1:=by decide
 unfold Pp;rw[e0];refine⟨λi w1=>1<=i/\i<=13/\aHU w1 g n c/\Mod (λk=>k=g) w w1,λi _=>(14-i).toNat,⟨by decide,by decide,h,Mod.refl _ _⟩,?_⟩;rintro i _ w1 ⟨i1,i2,h1,m1⟩;refine aA (λhi=>?_) (λ_=>⟨rfl,h1,m1⟩);have hi:i<(n:Int):=by simpa using hi
 refine⟨λj w2=>0<=j/\j<=i/\aHU w2 g n c/\Mod (λk=>k=g) w w2,λj _=>j.toNat,⟨by omega,by omega,h1,m1⟩,?_⟩;rintro j _ w2 ⟨j1,j2,h2,m2⟩;have hD:=h2.mod (S:=λ_=>False) (Still.refl w2).cy (λh=>h);have mD:=m2.drew;have next:∀w3,aHU w3 g n c->Mod (λk=>k=g) w w3->(1<=i64.wrap (i+1)/\i64.wrap (i+1)<=13/\aHU w3 g n c/\Mod (λk=>k=g) w w3)/\(14-i64.wrap (i+1)).toNat<(14-i).toNat:=λw3 h3 m3=>by rw[wrap_i64 (by omega) (by omega)];exact⟨⟨by omega,by omega,h3,m3⟩,by omega⟩
 refine⟨λwq=>aHU wq g n c/\wq=w2.drew,⟨hD,rfl⟩,aA (λhj=>?_) (λ_=>next _ hD mD)⟩;have hj:0<j:=by simpa using hj
 have ew:i64.wrap (j-1)=j-1:=wrap_i64 (by omega) (by omega);rw[ew];have ej:((j.toNat:Nat):Int)=j:=by omega
 have ej1:(((j-1).toNat:Nat):Int)=j-1:=by omega
 obtain⟨x,x1,x2,x3⟩:=hD.cell (j:=j.toNat) (by omega);obtain⟨y,y1,y2,y3⟩:=hD.cell (j:=(j-1).toNat) (by omega);refine⟨by omega,by omega,x.1,x.2.1,x.2.2,?_⟩;refine⟨?_,?_,?_,by omega,by omega,y.1,y.2.1,y.2.2,?_,?_,?_,?_⟩
 .rintro wq ⟨_,rfl⟩;rw[aHa,cQ];exact x1
 .rintro wq ⟨_,rfl⟩;rw[aHa,cQ];exact x2
 .rintro wq ⟨_,rfl⟩;rw[aHa,cQ];exact x3
 .rintro wq ⟨_,rfl⟩;rw[aHa,cQ];exact y1
 .rintro wq ⟨_,rfl⟩;rw[aHa,cQ];exact y2
 .rintro wq ⟨_,rfl⟩;rw[aHa,cQ];exact y3
 refine asP (aA (λ_=>?_) (λh=>by rw[aoA]at h;cases h));refine(asN x y).mono ?_;rintro _ w3 ⟨⟨r,rfl⟩,s3⟩;have h3:=hD.mod s3 (λh=>h);have m3:Mod (λk=>k=g) w w3:=Mod.trans mD s3 (λ_ h=>h) (λ_ _ h=>h.elim);refine .inl ⟨_,rfl,aA (λ_=>?_) (λ_=>next _ h3 m3)⟩;have h4:=h3.mod (S:=λ_=>False) (Still.refl w3).cy (λh=>h);have m4:=m3.drew;obtain⟨x,x1,x2,x3⟩:=h4.cell (j:=(j-1).toNat) (by omega);obtain⟨y,y1,y2,y3⟩:=h4.cell (j:=j.toNat) (by omega);refine⟨λwq=>aHU wq g n c/\wq=w3.drew,⟨h4,rfl⟩,by omega,by omega,x.1,x.2.1,x.2.2,?_,?_,?_,by omega,by omega,y.1,y.2.1,y.2.2,?_,?_,?_,by omega,by omega,?_⟩
 .rintro wq ⟨_,rfl⟩;rw[aHa,cQ];exact x1
 .rintro wq ⟨_,rfl⟩;rw[aHa,cQ];exact x2
 .rintro wq ⟨_,rfl⟩;rw[aHa,cQ];exact x3
 .rintro wq ⟨_,rfl⟩;rw[aHa,cQ];exact y1
 .rintro wq ⟨_,rfl⟩;rw[aHa,cQ];exact y2
 .rintro wq ⟨_,rfl⟩;rw[aHa,cQ];exact y3
 simp only[aaE,aHa,cQ];refine aHU.store h4 (j:=j.toNat) (by omega) x λw5 h5 m5 z5=>⟨by omega,by omega,?_⟩;refine aHU.store h5 (j:=(j-1).toNat) (by omega) y λw6 h6 m6 z6=>?_;exact⟨⟨by omega,by omega,h6,Mod.trans (Mod.trans m4 m5 (λ_ h=>h) (λ_ _ h=>h)) m6 (λ_ h=>h) (λ_ _ h=>h)⟩,by omega⟩
def apP{p:Option Addr}{c:Nat}:aq J1 #[.slice p 0 c,.int .i64 0,.int .i64 0,.func (.func aJ6) #[] #[]] w λe w'=>e=.returned (.tuple #[])/\w'=w:=by
 apply XR;have e0:i64.wrap ((0:Int)+1)=1:=by decide
 unfold Pp;rw[e0];refine⟨λi w1=>i=1/\w1=w,λ_ _=>0,⟨rfl,rfl⟩,?_⟩;rintro i _ w1 ⟨rfl,rfl⟩;exact aA (λh=>by simp at h) (λ_=>⟨rfl,rfl⟩)
def aoB{B:Nat}{p:Option Addr}{c:Nat}{l:List (ag×Bool×ag)}(h:aS w B Js 3 (.slice p l.length c) l.length (qj l))(hn:l.length<=12):aq Pq #[.slice p l.length c,.func (.func aJ6) #[] #[]] w λe w'=>e=.returned (.tuple #[])/\Mod (λk=>(Value.slice p l.length c).ownBlock=some k) w w':=by
 apply ajz;have ew:u64.wrap (((l.length:Nat):Int))=((l.length:Nat):Int):=by
  have:∀k,k<=12->u64.wrap ((k:Nat):Int)=((k:Nat):Int):=by decide
  exact this _ hn
 unfold XS;rw[ew];refine(auS l.length (by omega)).mono ?_;rintro _ w1 ⟨⟨lim,rfl⟩,e⟩;subst e;refine .inl ⟨_,rfl,?_⟩;refine(show aq FP #[.slice p l.length c,.int .i64 0,.int .i64 ((l.length:Nat):Int),.int .i64 lim,.func (.func aJ6) #[] #[]] w1 (λe w'=>e=.returned (.tuple #[])/\Mod (λk=>(Value.slice p l.length c).ownBlock=some k) w1 w')from ?_).mono ?_
 .apply ajE
  refine⟨λa b _ _ _ w2=>a=0/\b=((l.length:Nat):Int)/\w2=w1,λ_ _ _ _ _ _=>0,⟨rfl,rfl,rfl⟩,?_⟩;rintro a b lm _ _ _ w2 ⟨rfl,rfl,rfl⟩;have e1:i64.wrap (((l.length:Nat):Int)-0)=((l.length:Nat):Int):=by rw[Int.sub_zero];exact wrap_i64 (by omega) (by omega)
  rw[e1];refine aA (λ_=>?_) (λhf=>absurd (aX hf) (by simp;omega));rcases h.2 with⟨hv,h0⟩|⟨g,cap,cur,hv,hb,_⟩
  .injection hv with e1 e2 e3
   rw[h0];refine apP.mono ?_;rintro _ _ ⟨rfl,rfl⟩;exact .inl ⟨rfl,rfl,Mod.refl _ _⟩
  .injection hv with e1 e2 e3
   subst e1;refine(aq4 (w:=w2) ⟨l,rfl,h.AO⟩ hn).mono ?_;rintro _ w3 ⟨rfl,_,m3⟩;exact .inl ⟨rfl,rfl,m3.weaken λk hk=>by rw[hk];rfl⟩
 .rintro _ w3 ⟨rfl,m3⟩
  exact .inl ⟨rfl,rfl,m3⟩
def asQ(l:List (ag×Bool×ag))(x:ag×Bool×ag):qj (l++[x])=qj l++lu x:=by simp[qj]
def xN(w:World)(B:Nat)(p:Option Addr)(n c:Nat):Prop:=∃l:List (ag×Bool×ag),l.length=n/\aS w B Js 3 (.slice p n c) n (qj l)
def xN.push{B:Nat}{p:Option Addr}{n c:Nat}(h:xN w B p n c)(hB:B<=w.heap.size)(hn:n<=100){q:Addr}(x:ag×Bool×ag)(hq:∀j u,(lu x)[j]?=some u->w.cell? (q.add j)=some u){K:Option Addr->Nat->World->Prop}
  (hK:∀p' c' w',xN w' B p' (n+1) c'->Mod (λk=>(Value.slice p n c).ownBlock=some k) w w'->(∀k,(Value.slice p' (n+1) c').ownBlock=some k->B<=k)->K p' c' w'):dL w Js 3 40 p n c (some q) 1 K:=by
 obtain⟨l,rfl,ho⟩:=h;refine rM ho hB (lu x) rfl (aer x) (λ_=>⟨q,rfl,hq⟩) (by omega) (by omega) λp' c' w' o' m' bk=>hK p' c' w' ⟨l++[x],by simp,by rw[asQ];exact o'⟩ m' λk hk=>(o'.lt k hk).1
def xN.mod{w':World}{S:Nat->Prop}{B:Nat}{p:Option Addr}{n c:Nat}(h:xN w B p n c)(hm:Mod S w w')(hS:∀k,B<=k->k<w.heap.size->¬S k):xN w' B p n c:=by obtain⟨l,h1,h2⟩:=h;exact⟨l,h1,h2.mod hm λk hk=>hS k (h2.lt k hk).1 (h2.lt k hk).2⟩
def xN.low{B:Nat}{p:Option Addr}{n c:Nat}(h:xN w B p n c){k:Nat}(hk:(Value.slice p n c).ownBlock=some k):B<=k/\k<w.heap.size:=by obtain⟨l,h1,h2⟩:=h;exact h2.lt k hk
def aog:dD aM FN=true:=by kernel_rfl
def adp(he:Env w0)(h0:Still w0 w){a g n:Nat}{t:Tb}{T:Tree}(h:cU w w0.heap.size a g (some t) n T)(hn:n<=12):
  aq Ga #[.pointer (some ⟨a,0,none⟩)] w (λe w'=>(∃p1 n1 c1 p2 n2 c2,e=.returned (.tuple #[.slice p1 n1 c1,.slice p2 n2 c2]))/\cU w' w0.heap.size a g none 0 T/\Mod (λk=>k=a) w w'):=by
 apply alN;refine⟨_,h.top.aj rfl,aA (λhb=>by cases hb) (λ_=>?_)⟩;have d:=h.qu t rfl;obtain⟨l,p1,p2,p3⟩:=d.rd;refine⟨_,h.top.aj rfl,_,rfl,d.top.aj rfl,?_⟩;obtain⟨ms,c,hg,hG⟩:=p1;have s1:Still w (w.alloc (.mapIter (some t.gr) c #[] c)):=(Mod.refl _ _).alloc _;have i1:=qR.begin hg hG;have z1:(w.alloc (.mapIter (some t.gr) c #[] c)).heap.size=w.heap.size+1:=World.size_alloc ..;refine⟨t.gr,ms,c,rfl,hg,?_⟩;generalize w.alloc (.mapIter (some t.gr) c #[] c)=w1 at*;refine⟨λrp rn rc w2=>∃rest,qR w2 w.heap.size t.gr (ES l) rest/\rn+rest.length<=l.length/\xN w2 (w.heap.size+1) rp rn rc/\Still w w2,λ_ _ _ w2=>rN w2 w.heap.size,⟨ES l,i1,by simp[ES],⟨[],rfl,aS.nil _ _ _ _⟩,s1⟩,?_⟩;rintro rp rn rc _ w2 ⟨rest,i2,azu,t2,s2⟩;have jz:w.heap.size+1<=w2.heap.size:=by obtain⟨_,_,_,_,_,q,_⟩:=i2;exact wR q
 rcases ac6 (P:=aM) i2 with⟨rfl,hr⟩|⟨kk,x,rest',w3,vl,hmem,hr,hen,i3,m3,z3⟩
 .refine .inl ⟨w2,hr,?_⟩
  obtain⟨lt,hlt,ho⟩:=t2;subst hlt;refine(aoB ho (by simp at azu;omega)).mono ?_;rintro _ w3 ⟨rfl,m3⟩;have s3:Still w w3:=Mod.trans s2 m3 (λ_ h=>h) (λi hi hk=>by have:=(ho.lt i hk).1;omega);have h3:=h.still s3;have d3:=h3.qu t rfl;refine .inl ⟨rfl,_,h3.top.aj rfl,_,rfl,d3.top.aj rfl,?_⟩;obtain⟨lw,q1,q2,q3⟩:=d3.wr;refine(asO q1).mono ?_;rintro _ w4 ⟨c0,rfl,rc0,s4⟩;refine .inl ⟨_,rfl,rfl,?_⟩;have q4:=q1.still s4;refine(apO aog (aqK (by omega) q4 rc0) (λi hi=>?_) (by omega)).mono ?_
  .rcases hi with rfl|rfl
   .exact q4.lt
   .exact rc0.lt
  rintro _ w5 ⟨l',sp,sc,hp,rfl,rA,s5⟩;have aIf:=(s3.trans s4).trans s5;refine .inl ⟨_,_,_,rfl,?_⟩;refine⟨λwp wn wc x w6=>0<=x/\x<=(l'.length:Nat)/\x=(wn:Int)/\xN w6 w5.heap.size wp wn wc/\Still w5 w6,λ_ _ _ x _=>(l'.length-x).toNat,⟨by decide,by omega,rfl,⟨[],rfl,aS.nil _ _ _ _⟩,Still.refl _⟩,?_⟩;rintro wp wn wc x _ w6 ⟨x1,x2,x3,t6,s6⟩;have sM:=aIf.trans s6;have h6:=h.still sM;have hlen:l'.length<=12:=by have:=hp.length_eq;omega
  refine aA (λhx=>?_) (λ_=>?_)
  .have hx:x<(l'.length:Nat):=by simpa using hx
   have hj:x.toNat<(ir l').length:=by rw[Aj];omega
   have cell:w6.cell? ((Addr.mk 0 0 none).add 0)=w6.cell? ((Addr.mk 0 0 none).add 0):=rfl;have aJJ:=rA.still s6;obtain⟨gs,cap,cur,hv,_⟩:=aJJ.row (by omega);injection hv with e1 e2 e3;subst e1;have hy:(strs (ir l'))[x.toNat]?=some (.string (S (ir l')[x.toNat])):=by simp[strs,hj]
   have hcell:w6.cell? ((Addr.mk gs 0 none).add (x.toNat*1))=some (.string (S (ir l')[x.toNat])):=by rw[aHa,cQ,aHp];exact aJJ.cells rfl x.toNat _ hy
   have hmem:(ir l')[x.toNat]∈lw:=by have:(ir l')[x.toNat]∈ir l':=kI hj;have:(ir l')[x.toNat]∈l':=(Qi l' _).mem_iff.1 this;exact hp.mem_iff.1 this
   have hlp:=q2 _ hmem;refine⟨x1,hx,_,hcell,_,rfl,h6.top.aj rfl,(Tr h6.now h6.eS.1 hlp).mono ?_⟩;rintro _ w7 ⟨rfl,s7⟩;refine .inl ⟨_,_,_,rfl,(aaq (he.still (h0.trans (sM.trans s7))) (UD h6.eS.1 _) (Ub h6.eS _)).mono ?_⟩;rintro _ w8 ⟨⟨s,rfl⟩,s8⟩;refine .inl ⟨_,rfl,?_⟩;refine aQ λw9 r9 s9 z9=>?_;have Jt:=(s7.trans s8).trans s9;have hz:=s6.size;have Fg:=Jt.size;refine(t6.mod Jt λ_ _ _ h=>h).push (by omega) (by omega) ((ir l')[x.toNat],false,s) (λj u hu=>?_) λp' c' aO t10 m10 lo=>?_
   .rw[aHa,cQ]
    exact r9.aj hu
   .rw[wrap_i64 (by omega) (by omega)]
    exact⟨⟨by omega,by omega,by omega,t10,Mod.trans (s6.trans Jt) m10 (λ_ h=>h) (λi hi hk=>by have:=(t6.low hk).1;omega)⟩,by dsimp only;omega⟩
  .refine aHb (g:=a) (o:=1) h6.top λw7 r7 m7 z7=>?_
   exact⟨⟨_,_,_,_,_,_,rfl⟩,⟨r7,h6.now.mod m7 (λe=>h6.now.aHg h6.top e),h6.eS,h6.low,λt ht=>(by cases ht)⟩,Mod.trans sM m7 (λ_ h=>h.elim) (λ_ _ h=>h)⟩
 .obtain⟨xx,hx,e⟩:=dY.1 hmem
  obtain⟨rfl,rfl⟩:=aJ5 e;refine .inr ⟨_,_,w3,hr,xx.1.1,xx.1.2,xx.2,hen,?_⟩;have h3:Still w w3:=Mod.trans s2 m3 (λ_ h=>h) (λi hi e=>by omega);have t3:=t2.mod m3 λk h1 _ e=>by omega
  refine aQ λw4 r4 s4 z4=>aHb (g:=w3.heap.size) (o:=0) r4 λw5 r5 m5 z5=>?_;refine⟨_,r5.aj rfl,_,r5.aj rfl,?_⟩;have Ju:Still w3 w5:=s4.box (aV _) m5;refine aQ λw6 r6 s6 z6=>?_;have aJK:=Ju.trans s6;have Jv:=aJK.size;refine(t3.mod aJK λ_ _ _ h=>h).push (by omega) (by have:=vl.length_eq;simp at this;omega) (xx.1.1,xx.1.2,xx.2) (λj u hu=>?_) λp' c' w7 t7 m7 lo=>?_
  .rw[aHa,cQ]
   exact r6.aj hu
  .have i7:=(i3.mod aJK (λh=>h) (λh=>h)).mod m7 (λe=>by have:=(t3.low e).1;omega) (λe=>by
    have:=(t3.low e).1;have:=wR hg;omega)
   have hpl:=vl.length_eq;simp only[bf]at hpl;refine⟨⟨rest',i7,by omega,t7,Mod.trans (h3.trans aJK) m7 (λ_ h=>h) (λi hi hk=>by have:=(t3.low hk).1;omega)⟩,?_⟩;show rN w7 w.heap.size<rN w2 w.heap.size
   rw[Lu i7,Lu i2,hpl];exact aHP _
end Go.Proofs.YtihaaoehhgmphaaGreatDoor
namespace Go.Proofs.YtihaaoehhgmphaaGreatDoor.L
open IntKind Go.RowKit Vc
variable{w:World}
def EU(r:Int):Bool:=decide ((97<=r/\r<=122)\/(65<=r/\r<=90)\/r=95)
def pI(r:Int):Bool:=decide (48<=r/\r<=57)
def ED(a c:UInt8):decide (a<=c)=decide ((a.toNat:Int)<=(c.toNat:Int)):=by apply sY.2;rw[UInt8.le_iff_toNat_le];omega
def acp(c:UInt8):isLet c=EU (c.toNat:Int):=by unfold isLet EU;rw[ED,ED,ED,ED,show(c==95)=decide ((c.toNat:Int)=95) by rw[sZ];simp[<-KH];omega];rw[sZ];simp;omega
def acq(c:UInt8):qY c=pI (c.toNat:Int):=by unfold qY pI;rw[ED,ED,sZ];simp
def nt{p:Prop}[Decidable p](h:(!decide p)=true):¬p:=by simpa using h
def nf{p:Prop}[Decidable p](h:(!decide p)=false):p:=by simpa using h
def anz(r:Int):aq K7 #[.int .i32 r] w (λe w'=>e=.returned (.bool (EU r))/\w'=w):=by
 apply Y3;unfold EU
 repeat' refine aA (λh=>?_) (λh=>?_)
 all_goals simp only[oC,aJZ]at*
 all_goals refine⟨gJ (λb=>Ending.returned (.bool b)) ?_,(by first|trivial|rfl)⟩
 all_goals first|exact(fe (by omega)).symm|exact sY.2 (by omega)
def anR(r:Int):aq Ld #[.int .i32 r] w (λe w'=>e=.returned (.bool (pI r))/\w'=w):=by
 apply Ze;unfold pI
 repeat' refine aA (λh=>?_) (λh=>?_)
 all_goals simp only[oC,aJZ]at*
 all_goals refine⟨gJ (λb=>Ending.returned (.bool b)) ?_,(by first|trivial|rfl)⟩
 all_goals first|exact(eX (by omega)).symm|exact sY.2 (by omega)
def ZC{p:UInt8->Bool}:∀{l:ag} {k:Nat} (hk:k<l.length),k<=(l.takeWhile p).length->(p l[k]=true->k+1<=(l.takeWhile p).length)/\(p l[k]=false->(l.takeWhile p).length=k)
 |a::l,0,_,_=>by
  refine⟨λh=>?_,λh=>?_⟩
  .have h:p a=true:=h
   rw[Kr,aL h];simp
  .have h:p a=false:=h
   rw[Kr,aG (by rw[h];decide)];rfl
 |a::l,k+1,hk,h=>by
  rw[Kr]at h⊢
  by_cases ha:p a=true
  .rw[aL ha]at h⊢
   simp only[bf]at h hk⊢;have:=ZC (p:=p) (l:=l) (k:=k) (by omega) (by omega);refine⟨λhp=>?_,λhp=>?_⟩
   .have:=this.1 hp;omega
   .have:=this.2 hp;omega
  .rw[aG ha]at h
   simp at h
def aq5{s:ag}{k:Nat}(hk:k<s.length)(h:k<=bV s):((isLet s[k]||(decide (0<k)&&qY s[k]))=true->k+1<=bV s)/\((isLet s[k]||(decide (0<k)&&qY s[k]))=false->bV s=k):=by
 cases s with
 |nil=>simp at hk
 |cons c r=>
  simp only[bV]at h⊢;cases k with
  |zero=>
   have e:(c::r)[0]=c:=rfl;rw[e];simp only[DR,Ry,Rc,DS];refine⟨λhc=>?_,λhc=>?_⟩
   .rw[aL hc];omega
   .rw[aG (by rw[hc];decide)]
  |succ k=>
   by_cases hc:isLet c=true
   .rw[aL hc]at h⊢
    simp only[bf]at hk;have:=ZC (p:=U2) (l:=r) (k:=k) (by omega) (by omega);have e:(c::r)[k+1]=r[k]'(by omega):=rfl;rw[e];simp only[Nat.zero_lt_succ,decide_true,B2];refine⟨λhp=>?_,λhp=>?_⟩
    .have:=this.1 hp;omega
    .have:=this.2 hp;omega
   .rw[aG hc]at h
    omega
def awj{b:ag}{k:Nat}(hk:k<b.length)(h:b[k].toNat<128):Utf8.decode ⟨⟨b⟩⟩ k=(b[k].toNat,1):=decode_ascii ⟨⟨b⟩⟩ k hk h
def auU{b:ag}{k:Nat}(hk:k<b.length)(h:128<=b[k].toNat):128<=(Utf8.decode ⟨⟨b⟩⟩ k).1:=by
 have e:(S b).get! (k+0)=b[k]:=by show(S b).get! k=_;have hs:k<(S b).size:=hk;simp[ByteArray.get!,gW hk]
 simp only[Utf8.decode,e];rw[aG (by omega)];unfold Utf8.runeError
 repeat' split
 all_goals simp_all
 all_goals omega
def awk{b:ag}{k:Nat}(hk:k<b.length):EU ((Utf8.decode ⟨⟨b⟩⟩ k).1:Int)=isLet b[k]/\pI ((Utf8.decode ⟨⟨b⟩⟩ k).1:Int)=qY b[k]/\((isLet b[k]||qY b[k])=true->(Utf8.decode ⟨⟨b⟩⟩ k).2=1):=by
 rcases yl b[k].toNat 128 with hlt|hge
 .rw[awj hk hlt,acp,acq]
  exact⟨rfl,rfl,λ_=>rfl⟩
 .have hh:=auU hk hge
  rw[acp,acq];unfold EU pI;refine⟨?_,?_,λh=>?_⟩
  .rw[eX (by omega),eX (by omega)]
  .rw[eX (by omega),eX (by omega)]
  .exfalso
   simp at h;omega
def auV(w:World)(o:Obj):(w.alloc o).heap[w.heap.size]?=some o:=heap_alloc_new w _
def aq6{w1:World}{g:Nat}(h:Still w w1)(hg:w.heap.size<=g)(s:ByteArray)(n:Nat):Still w (w1.iterAt g s n):=
 ⟨h.os,h.tape,h.output,by rw[Lib.iterAt_size];exact h.size,λk hk hn=>(Lib.iterAt_other _ _ _ _ _ (by omega)).trans (h.block k hk hn)⟩
def SV(s:ag)(hl:s.length<1000000):aq B9 #[.string (S s)] w (λe w'=>e=.returned (.string (S (s.take (bV s))))/\Still w w'):=by
 apply Zr;refine nS ?_;refine⟨λw1=>∃k:Nat,w1.heap[w.heap.size]?=some (.stringIter ⟨⟨s⟩⟩ k)/\k<=bV s/\Still w w1,λw1=>match w1.heap[w.heap.size]? with
  |some (.stringIter _ k)=>s.length-k
  |_=>0,⟨0,auV _ _,dK _,(Mod.refl _ _).alloc _⟩,?_⟩
 rintro _ w2 ⟨k,hk,hkn,hs2⟩;have hnl:=aIS s;refine⟨rfl,s,k,hk,aA (λhx=>?_) (λhx=>?_)⟩;rotate_left
 .have hx:=aX hx
  rw[wu (by omega)];exact⟨rfl,hs2⟩
 have hx:=aR hx;obtain⟨r1,r2,r3⟩:=awk hx;obtain⟨n1,n2⟩:=aq5 hx hkn;refine nS ?_;have hs3:Still w (w2.iterAt w.heap.size ⟨⟨s⟩⟩ (k+(Utf8.decode ⟨⟨s⟩⟩ k).2)):=aq6 hs2 (aV _) _ _;have pO:(w2.iterAt w.heap.size ⟨⟨s⟩⟩ (k+(Utf8.decode ⟨⟨s⟩⟩ k).2)).heap[w.heap.size]?=some (.stringIter ⟨⟨s⟩⟩ (k+(Utf8.decode ⟨⟨s⟩⟩ k).2)):=Lib.iterAt_heap _ _ _ _ _ hk;have on:(isLet s[k]||(decide (0<k)&&qY s[k]))=true->∀w4,w4=w2.iterAt w.heap.size ⟨⟨s⟩⟩ (k+(Utf8.decode ⟨⟨s⟩⟩ k).2)->(∃k:Nat,w4.heap[w.heap.size]?=some (.stringIter ⟨⟨s⟩⟩ k)/\k<=bV s/\Still w w4)/\(match w4.heap[w.heap.size]? with
  |some (.stringIter _ k)=>s.length-k
  |_=>0)<(match w2.heap[w.heap.size]? with
  |some (.stringIter _ k)=>s.length-k
  |_=>0):=by
  rintro ho _ rfl;have h1:=r3 (by
   rw[KG]at ho⊢;rcases ho with ho|ho
   .exact .inl ho
   .rw[aHo]at ho
    exact .inr ho.2)
  rw[h1]at pO hs3⊢;refine⟨⟨k+1,pO,n1 ho,hs3⟩,?_⟩;rw[pO,hk];show s.length-(k+1)<s.length-k
  omega
 have off:(isLet s[k]||(decide (0<k)&&qY s[k]))=false->∀w4,w4=w2.iterAt w.heap.size ⟨⟨s⟩⟩ (k+(Utf8.decode ⟨⟨s⟩⟩ k).2)->(Ending.returned (.string (S (s.take (Int.toNat (k:Int)))))=.returned (.string (S (s.take (bV s))))/\Still w w4):=by rintro ho _ rfl;rw[n2 ho,b6];exact⟨rfl,hs3⟩
 refine(anz _).mono ?_;rintro _ w4 ⟨rfl,rfl⟩;rw[r1];refine .inl ⟨_,rfl,aA (λh=>?_) (λh=>?_)⟩
 .have h:isLet s[k]=false:=by simpa using h
  refine aA (λh0=>?_) (λh0=>?_)
  .have h0:(k:Int)=0:=aR h0
   refine⟨by omega,by omega,off ?_ _ rfl⟩;rw[h,eX (by omega)];rfl
  .have h0:(k:Int)≠0:=aX h0
   refine(anR _).mono ?_;rintro _ w5 ⟨rfl,rfl⟩;rw[r2];refine .inl ⟨_,rfl,aA (λh5=>?_) (λh5=>?_)⟩
   .have h5:qY s[k]=false:=by simpa using h5
    refine⟨by omega,by omega,off ?_ _ rfl⟩;rw[h,h5,KQ];rfl
   .have h5:qY s[k]=true:=by simpa using h5
    exact on (by rw[h,h5,fe (by omega)];rfl) _ rfl
 .have h:isLet s[k]=true:=by simpa using h
  exact on (by rw[h];rfl) _ rfl
def take_nil{s:ag}{n:Nat}(h:n<=s.length):s.take n=[]↔n=0:=by refine⟨λe=>?_,λe=>by rw[e];rfl⟩;have:=gJ List.length e;rw[aHl,aHf]at this;omega
def auW{s:ag}{n:Nat}(h:n<=s.length):s.take n=s↔n=s.length:=by refine⟨λe=>?_,λe=>by rw[e,oD]⟩;have:=gJ List.length e;rw[aHl]at this;omega
def apQ(s:ag)(hl:s.length<1000000):aq DW #[.string (S s)] w (λe w'=>e=.returned (.bool (decide (s≠[]/\bV s=s.length)))/\Still w w'):=by
 apply Y4;refine aA (λh=>?_) (λh=>?_)
 .have h:s≠[]:=by simpa using h
  refine(SV s hl).mono ?_;rintro _ w1 ⟨rfl,hs1⟩;refine .inl ⟨_,rfl,?_,hs1⟩;congr 2;apply sY.2;rw[auW (aIS s)];exact⟨λe=>⟨h,e⟩,λe=>e.2⟩
 .have h:s=[]:=by simpa using h
  subst h;exact⟨rfl,Still.refl _⟩
def LP:∀(l:ag) (c:UInt8),decide ((0:Int)<=Go.Lib.indexByte l c)=l.contains c
 |[],c=>rfl
 |b::r,c=>by
  have ih:=LP r c;simp only[Go.Lib.indexByte,B8,ud]
  by_cases h:b=c
  .subst h
   simp
  .have h2:¬c=b:=λe=>h e.symm
   rw[aG h];have h3:(c==b)=false:=by simpa using h2
   rw[h3,yh,<-ih];split
   .rename_i he
    rw[he]
   .rename_i he
    have h4:∀(l:ag) (c:UInt8),-1<=Go.Lib.indexByte l c:=by
     intro l c
     induction l with
     |nil=>exact Int.le_refl (-1)
     |cons x l ih=>
      simp only[Go.Lib.indexByte];split
      .decide
      .split<;>omega
    have:=h4 r c;rw[fe (by omega),fe (by omega)]
def R5(b:UInt8):(((b.toNat:Nat):Int)).toNat.toUInt8=b:=by rw[b6];simp
def index_spec(l:ag)(c:UInt8):aq ya #[.string (S l),.int .u8 (c.toNat:Int)] w (λe w'=>(∃n:Int,e=.returned (.int .i64 n)/\decide (0<=n)=l.contains c)/\w'=w):=by refine(Tryz.strings_IndexByte (S l) _ _).mono ?_;rintro _ w1 ⟨rfl,rfl⟩;rw[R5];exact⟨⟨_,rfl,LP l c⟩,rfl⟩
def Lh(t s:ag):pf t s=t.isPrefixOf s:=by unfold pf;rw[sZ,oC,J6];refine⟨λh=>?_,λh=>⟨h.length_le,(List.prefix_iff_eq_take.1 h).symm⟩⟩;rw[<-h.2];exact List.take_prefix _ _
def ZD(s t:ag):aq DK #[.string (S s),.string (S t)] w (λe w'=>e=.returned (.bool (pf t s))/\w'=w):=by refine(Tryz.strings_HasPrefix (S s) (S t) _).mono ?_;rintro _ w1 ⟨rfl,rfl⟩;rw[Lh];exact⟨rfl,rfl⟩
abbrev EV(x:Pt)(v:Value):Value:=.agg #[.int .i64 x.k,.bool x.q,.string (S x.t),.string (S x.n),.string (S x.o),v]
def _root_.Go.Proofs.YtihaaoehhgmphaaGreatDoor.aS.store{B:Nat}{e:TypeId}{sz n c g i:Nat}{xs:List Value}{u:Value}{K:World->Prop}(h:aS w B e sz (.slice (some ⟨g,0,none⟩) n c) n xs)(hi:i<n*sz)(hu:u.oneCell'=true)
  (hK:∀w',aS w' B e sz (.slice (some ⟨g,0,none⟩) n c) n (xs.set i u)->Mod (λk=>k=g) w w'->w'.heap.size=w.heap.size->K w'):cJ ((Addr.mk g 0 none).add i) K 0 [u] w:=by
 obtain⟨h1,⟨he,hn⟩|⟨g',cap,cur,he,hB,hr,hc,hm,hs,ht⟩⟩:=h
 .cases he
 .injection he with e1 e2 e3
  injection e1 with e1;injection e1 with e1;subst e1 e3;rw[aHa,cQ];have hr':Row w g e ⟨cur.toList⟩:=hr;have hlen:cur.toList.length=c*sz:=by rw[Kq];exact hs
  have hle:n*sz<=c*sz:=Yp sz hc;refine dO hr' (by simp only[bf,aHf];omega) (by simpa using hu) λw' r' m' z'=>hK w' ⟨by rw[zY];exact h1,.inr ⟨g,c,_,rfl,hB,r',hc,hm,?_,?_⟩⟩ m' z'
  .simp only[fh,wB,zY]
   exact hlen
  .simp only[fh]
   rw[<-ht,List.take_set]
def cD.cells{F:Nat->Prop}{l:List Pt}{p:Option Addr}{n c:Nat}(h:cD w F l (.slice p n c)):∃xs,Cs w F l xs/\At w p n xs:=by
 obtain⟨p',c',he,h2,h3⟩:=h;injection he with e1 e2 e3;subst e1 e2 e3
 by_cases hl:l=[]
 .subst hl
  exact⟨[],rfl,λh=>absurd h (DR _)⟩
 .obtain⟨b,rfl,h4,h5⟩:=h3 hl
  obtain⟨xs,h6,h7⟩:=Cs.to h5;exact⟨xs,h6,λ_=>⟨b,rfl,h7⟩⟩
def iH(w:World):Still w w.drew:=(Still.refl w).cy
def GI{g:Nat}{x:Pt}{v:Value}(h:Row w g 51 ⟨gX x v⟩):w.cell? ⟨g,0,none⟩=some (.int .i64 x.k)/\w.cell? ⟨g,1,none⟩=some (.bool x.q)/\w.cell? ⟨g,2,none⟩=some (.string (S x.t))/\w.cell? ⟨g,3,none⟩=some (.string (S x.n))/\w.cell? ⟨g,4,none⟩=some (.string (S x.o))/\w.cell? ⟨g,5,none⟩=some v:=
 ⟨h.aj rfl,h.aj rfl,h.aj rfl,h.aj rfl,h.aj rfl,h.aj rfl⟩
def Mo(gx:Nat)(w1:World)(l:Option Addr)(lL lC:Nat)(R:Ending->World->Prop):Prop:=
 ∃xJ:World->Prop,(∃aY:Bool->World->Prop,(an (decide ((0:Int)<=(i64.wrap ((((lL:Nat):Int):Int)-(1:Int))))) (∃v:Int,w1.cell? (Addr.mk gx 0 none)=some (.int .i64 v)/\an (decide (v=(0:Int))) (0<=(i64.wrap ((((lL:Nat):Int):Int)-(1:Int)))/\(i64.wrap ((((lL:Nat):Int):Int)-(1:Int)))<(lL:Nat)/\aB l (λa=>∃v1:Int,w1.cell? (a.add (Int.toNat (i64.wrap ((((lL:Nat):Int):Int)-(1:Int)))*6))=some (.int .i64 v1)/\an (decide (v1=(0:Int))) (0<=(i64.wrap ((((lL:Nat):Int):Int)-(1:Int)))/\(i64.wrap ((((lL:Nat):Int):Int)-(1:Int)))<(lL:Nat)/\aB l (λa1=>∃v2:Bool,w1.cell? ((a1.add (Int.toNat (i64.wrap ((((lL:Nat):Int):Int)-(1:Int)))*6)).add 1)=some (.bool v2)/\∃v3:Bool,w1.cell? (Addr.mk gx 1 none)=some (.bool v3)/\aY (decide (v2=v3)) w1.drew)) (aY false w1.drew))) (aY false w1.drew)) (aY false w1.drew))/\∀(x:Bool) (zu:Nat->Value) (w2:World),(aY x w2)->an x (∃Sw:World->Prop,Sw w2.drew/\0<=(i64.wrap ((((lL:Nat):Int):Int)-(1:Int)))/\(i64.wrap ((((lL:Nat):Int):Int)-(1:Int)))<(lL:Nat)/\aB l (λa2=>∃v4:List UInt8,(∀wq:World,Sw wq->wq.cell? ((a2.add (Int.toNat (i64.wrap ((((lL:Nat):Int):Int)-(1:Int)))*6)).add 2)=some (.string (S v4)))/\∃v5:List UInt8,(∀wq:World,Sw wq->wq.cell? (Addr.mk gx 2 none)=some (.string (S v5)))/\v4.length+v5.length<=9223372036854775807/\0<=(i64.wrap ((((lL:Nat):Int):Int)-(1:Int)))/\(i64.wrap ((((lL:Nat):Int):Int)-(1:Int)))<(lL:Nat)/\aB l (λa3=>cJ ((a3.add (Int.toNat (i64.wrap ((((lL:Nat):Int):Int)-(1:Int)))*6)).add 2) (λ(w3:World)=>R (.returned (.slice l lL lC)) w3) 0 [(.string (S (v4++v5)))] w2.drew))) (xJ w2))/\∀(WA:Nat->Value) (w4:World),(xJ w4)->∃cH:Int,∃nH:Bool,∃jh:List UInt8,∃cC:List UInt8,∃jP:List UInt8,∃(jL:Option Addr) (jG jH:Nat),w4.cell? (Addr.mk gx 0 none)=some (.int .i64 cH)/\w4.cell? (Addr.mk gx 1 none)=some (.bool nH)/\w4.cell? (Addr.mk gx 2 none)=some (.string (S jh))/\w4.cell? (Addr.mk gx 3 none)=some (.string (S cC))/\w4.cell? (Addr.mk gx 4 none)=some (.string (S jP))/\w4.cell? (Addr.mk gx 5 none)=some (.slice jL jG jH)/\c7 (w4.alloc (.cells #[(.int .i64 cH),(.bool nH),(.string (S jh)),(.string (S cC)),(.string (S jP)),(.slice jL jG jH)] 51)) (λ(w5:World)=>dL w5 51 6 88 l lL lC (some (Addr.mk w4.heap.size 0 none)) 1 (λ(p:Option Addr) (cp:Nat) (w6:World)=>R (.returned (.slice p (lL+1) cp)) w6))
def ao8{w1:World}{gx B:Nat}{l:List Pt}{p:Option Addr}{c:Nat}{x:Pt}{wp:Option Addr}{wc:Nat}{R:Ending->World->Prop}(r1:Row w1 gx 51 ⟨gX x (.slice wp x.w.length wc)⟩)(ho:iq w1 B l (.slice p l.length c))(hB:B<=w1.heap.size)
  (hw:cD w1 (λk=>B<=k/\k<w1.heap.size/\(Value.slice p l.length c).ownBlock≠some k) x.w (.slice wp x.w.length wc))(hl:cG l+x.wt<1000000000)
  (hR:∀v' w',iq w' B (fP l x) v'->Mod (λk=>(Value.slice p l.length c).ownBlock=some k) w1 w'->(∀k,v'.ownBlock=some k->(Value.slice p l.length c).ownBlock=some k\/w1.heap.size<=k)->R (.returned v') w'):Mo gx w1 p l.length c R:=by
 obtain⟨p',c',xs,hv,hown,hcs⟩:=ho;injection hv with hv1 _ Bj;subst hv1 Bj;have aJL:=aKr l;obtain⟨f0,f1,f2,f3,f4,f5⟩:=GI (x:=x) r1;have sd:Still w1 w1.drew:=iH w1
 -- what stands behind is put in a new place
 have push:(∀y∈l.getLast?,¬Mg y x)->∀w4:World,w4=w1.drew->
   c7 (w4.alloc (.cells ⟨gX x (.slice wp x.w.length wc)⟩ 51)) (λw5=>dL w5 51 6 88 p l.length c (some (Addr.mk w4.heap.size 0 none)) 1 (λp' cp w6=>R (.returned (.slice p' (l.length+1) cp)) w6)):=by
  rintro hno _ rfl;have Vk:fP l x=l++[x]:=by
   by_cases hl:l=[]
   .subst hl;rfl
   .obtain⟨m,y,rfl⟩:=Mf hl
    rw[LO,aG (show¬(x.k=0/\y.k=0/\y.q=x.q)from hno y (by simp))]
  refine aQ λw5 r5 s5 z5=>?_;have aIf:=sd.trans s5;refine rM (hown.still aIf) (by have:=aIf.size;omega) (gX x (.slice wp x.w.length wc)) rfl (ab9 rfl) (λ_=>⟨_,rfl,λj u hu=>?_⟩) (by omega) (by omega) λp' c' w6 aJJ jm hbk=>?_
  .rw[aHa,cQ]
   exact r5.aj hu
  .have VC:Mod (λk=>(Value.slice p l.length c).ownBlock=some k) w1 w6:=Mod.trans aIf jm (λ_ h=>h.elim) (λ_ _ h=>h)
   have OA:w1.heap.size<=w5.heap.size:=aIf.size;have af5:∀k,(Value.slice p' (l.length+1) c').ownBlock=some k->(Value.slice p l.length c).ownBlock=some k\/w5.heap.size<=k:=by
    intro k hk;rcases hbk.own (n:=l.length)with e|e
    .exact .inl (by rw[<-e];exact hk)
    .rw[hk]at e
     obtain rfl:=bU e;exact .inr (aV _)
   refine hR _ _ ?_ VC λk hk=>(af5 k hk).imp_right λh=>by omega
   rw[Vk];refine⟨p',c',_,by rw[cB];rfl,by rw[cB];exact aJJ,?_⟩;have tr:∀{y:List Pt} {u:Value},cD w1 (λk=>B<=k/\k<w1.heap.size/\(Value.slice p l.length c).ownBlock≠some k) y u->cD w6 (λk=>B<=k/\k<w6.heap.size/\(Value.slice p' (l.length+1) c').ownBlock≠some k) y u:=by
    intro y u h;refine(h.mod VC λk hk=>hk.2.2).mono λk hk=>⟨hk.1,aH2 hk.2.1 VC.size,λe=>?_⟩;rcases af5 k e with e|e
    .exact hk.2.2 e
    .omega
   exact(hcs.dN tr).snoc (tr hw)
 by_cases hl0:l=[]
 .subst hl0
  have e1:i64.wrap ((((([]:List Pt).length:Nat):Int):Int)-1)= -1:=by decide
  unfold Mo;rw[e1];refine⟨λw4=>w4=w1.drew,⟨λb w2=>b=false/\w2=w1.drew,aA (λh=>absurd h (by decide)) (λ_=>⟨rfl,rfl⟩),?_⟩,?_⟩
  .rintro _ _ w2 ⟨rfl,rfl⟩
   exact rfl
  .rintro _ _ rfl
   obtain⟨f0,f1,f2,f3,f4,f5⟩:=GI (x:=x) (r1.still (iH w1));exact⟨_,_,_,_,_,_,_,_,f0,f1,f2,f3,f4,f5,push (by simp) _ rfl⟩
 .obtain⟨m,y,rfl⟩:=Mf hl0
  have hlen:(m++[y]).length=m.length+1:=by simp
  obtain⟨ys,vy,hxs,hcm,hvy⟩:=hcs.last;have OG:ys.length=m.length*6:=hcm.len;obtain⟨g,cap,he,hgB,vP,hcap,hcell⟩:=hown.Ax (by omega);injection he with e1 e2 e3;subst e1 e3;have e1:i64.wrap ((((m++[y]).length:Nat):Int)-1)=(m.length:Int):=by rw[hlen,wrap_i64 (by omega) (by omega)];omega
  have U7:∀(w':World),Still w1 w'->∀j u,(gX y vy)[j]?=some u->w'.cell? (((Addr.mk g 0 none).add (m.length*6)).add j)=some u:=by intro w' hs j u hu;rw[aIC,aHa,cQ];refine hs.cell (hcell _ _ ?_);rw[hxs,aJY (by rw[OG];omega),OG,BM];exact hu
  have a0:∀a:Addr,a.add 0=a:=by intro a;unfold Addr.add;simp
  have y0:=U7 w1 (Still.refl _) 0 _ rfl;rw[a0]at y0;unfold Mo;rw[e1];refine⟨λw4=>w4=w1.drew/\¬Mg y x,⟨λb w2=>(b=true↔Mg y x)/\w2=w1.drew,aA (λ_=>⟨x.k,f0,aA (λhk=>?_) (λhk=>⟨?_,rfl⟩)⟩) (λh=>absurd (aX h) (by omega)),?_⟩,?_⟩
  .have hk:x.k=0:=aR hk
   refine⟨by omega,by omega,y.k,by rw[b6];exact y0,aA (λhy=>?_) (λhy=>⟨?_,rfl⟩)⟩
   .have hy:y.k=0:=aR hy
    refine⟨by omega,by omega,y.q,by rw[b6];exact U7 w1 (Still.refl _) 1 _ rfl,x.q,f1,?_,rfl⟩;rw[oC];exact⟨λe=>⟨hk,hy,e⟩,λe=>e.2.2⟩
   .have hy:¬y.k=0:=aX hy
    exact⟨λe=>(by cases e),λe=>absurd e.2.1 hy⟩
  .have hk:¬x.k=0:=aX hk
   exact⟨λe=>(by cases e),λe=>absurd e.1 hk⟩
  .rintro b _ w2 ⟨hb,rfl⟩
   refine aA (λh=>?_) (λh=>?_)
   .have hm:=hb.1 h
    have f2':=(r1.still ((iH w1).trans (iH w1.drew))).aj (i:=2) rfl;have hty:=GG m [y];rw[T4,y.vm]at hty;have hx2:=x.vm;refine⟨λwq=>wq=w1.drew.drew,rfl,by omega,by omega,y.t,?_,x.t,?_,by omega,by omega,by omega,?_⟩
    .rintro wq rfl
     rw[b6];exact U7 _ (sd.trans (iH w1.drew)) 2 _ rfl
    .rintro wq rfl
     exact f2'
    .rw[b6,aaE,aIC]
     have so:Still w1 w1.drew.drew:=sd.cy;refine aS.store (hown.still so) (by omega) rfl λw' ho' hm' hz'=>hR _ _ ?_ ?_ λk hk=>.inl hk
     .rw[LO,aL (show x.k=0/\y.k=0/\y.q=x.q from hm)]
      have hset:xs.set (m.length*6+2) (.string (S (y.t++x.t)))=ys++gX (.mk y.k y.q (y.t++x.t) y.n y.o y.w) vy:=by rw[hxs,Kg _ _ (by rw[OG];omega),OG,BM];rfl
      rw[hset]at ho';have hmo:Mod (λk=>k=g) w1 w':=Mod.trans so hm' (λ_ h=>h.elim) (λ_ _ h=>h);have tr:∀{z:List Pt} {u:Value},cD w1 (λk=>B<=k/\k<w1.heap.size/\(Value.slice (some ⟨g,0,none⟩) (m++[y]).length c).ownBlock≠some k) z u->cD w' (λk=>B<=k/\k<w'.heap.size/\(Value.slice (some ⟨g,0,none⟩) (m++[y]).length c).ownBlock≠some k) z u:=by intro z u h;refine(h.mod hmo λk hk e=>hk.2.2 (by rw[e];simp[Value.ownBlock])).mono λk hk=>⟨hk.1,aH2 hk.2.1 hmo.size,hk.2.2⟩
      have af6:(m++[Pt.mk y.k y.q (y.t++x.t) y.n y.o y.w]).length=(m++[y]).length:=by simp
      exact⟨some ⟨g,0,none⟩,c,_,by rw[af6],by rw[af6];exact ho',(hcm.dN tr).snoc (tr hvy)⟩
     .exact Mod.trans so hm' (λ_ h=>h.elim) (λk _ e=>by rw[e];simp[Value.ownBlock])
   .exact⟨rfl,λhm=>by rw[hb.2 hm]at h;cases h⟩
  .rintro _ _ ⟨rfl,hno⟩
   obtain⟨f0,f1,f2,f3,f4,f5⟩:=GI (x:=x) (r1.still (iH w1));exact⟨_,_,_,_,_,_,_,_,f0,f1,f2,f3,f4,f5,push (by simpa using hno) _ rfl⟩
def G8{B:Nat}{l:List Pt}{v:Value}{x:Pt}{vw:Value}(ho:iq w B l v)(hB:B<=w.heap.size)(hw:cD w (λk=>B<=k/\k<w.heap.size/\v.ownBlock≠some k) x.w vw)(hl:cG l+x.wt<1000000000):
  aq Lr #[v,EV x vw] w (λe w'=>∃v',e=.returned v'/\iq w' B (fP l x) v'/\Mod (λk=>v.ownBlock=some k) w w'/\∀k,v'.ownBlock=some k->v.ownBlock=some k\/w.heap.size<=k):=by
 have ho':=ho;obtain⟨p,c,xs,rfl,hown,hcs⟩:=ho;obtain⟨wp,wc,rfl⟩:=hw.form;apply aoa;refine aQ λw1 r1 s1 z1=>?_;have key:Mo w.heap.size w1 p l.length c (λe w'=>∃v',e=.returned v'/\iq w' B (fP l x) v'/\Mod (λk=>(Value.slice p l.length c).ownBlock=some k) w w'/\∀k,v'.ownBlock=some k->(Value.slice p l.length c).ownBlock=some k\/w.heap.size<=k):=
  ao8 (x:=x) r1 (ho'.still s1) (by omega) ((hw.still s1).mono λk hk=>⟨hk.1,by omega,hk.2.2⟩) hl λv' w' h1 h2 h3=>⟨v',rfl,h1,Mod.trans s1 h2 (λ_ h=>h.elim) (λ_ _ h=>h),λk hk=>(h3 k hk).imp_right λh=>by omega⟩
 exact key
end Go.Proofs.YtihaaoehhgmphaaGreatDoor.L
