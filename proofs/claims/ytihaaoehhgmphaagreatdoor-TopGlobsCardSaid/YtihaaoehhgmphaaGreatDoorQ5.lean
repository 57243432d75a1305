/- Texts of one proof, one behind the other. Conditions: as each theorem names them. -/
import Derived.Test.YtihaaoehhgmphaaGreatDoorQ4
import Derived.DeepKeys3
import Derived.Tactics
import Derived.Tactics2
import Derived.Defers
import Derived.Recover
import Derived.Laws.Pointers
import Derived.Shelf.Strings.Builder1
import Derived.Shelf.Strings.Builder2
import Derived.Shelf.Strings.OnBuilder
import Derived.Shelf.Strings.Trim
import Derived.Shelf.Small.Utf8
import Derived.Shelf.Small.Bits
import Derived.Shelf.Small.Strs
import Derived.Shelf.Small.Wraps
import Derived.Shelf.Strings.BuilderF
import Derived.Shelf.Strings.BuilderK
import Derived.Shelf.Utf8.RuneCount
import Derived.Shelf.Strconv.Atoi
import Derived.Shelf.Strconv.Itoa0
import Derived.Shelf.Strconv.Itoa1
import Derived.Shelf.LaysM
import Derived.Shelf.Strconv.Itoa2
import Derived.Shelf.Strconv.Itoa3
import Derived.Shelf.Strconv.AtoiErrFast
import Derived.Shelf.Strconv.ParseIntEmpty
import Derived.Shelf.Strconv.AtoiFail
import Derived.Shelf.Strconv.Clone
import Derived.Shelf.Strconv.SyntaxError
import Derived.Shelf.LaysC
import Derived.Shelf.Strconv.ToError
import Derived.Shelf.Strconv.AtoiErr
import Derived.Shelf.Strconv.ErrVar
import Derived.Shelf.Strconv.Lower
import Derived.Shelf.Strconv.ParseUint10
import Derived.Shelf.Strconv.ParseUint10Empty
import Derived.Shelf.Strconv.ParseUint10Any
import Derived.Shelf.Strconv.ParseInt10
import Derived.Shelf.Strconv.AtoiLong
import Derived.Shelf.Strconv.AtoiInnerAll
import Derived.Shelf.Strconv.RangeError
import Derived.Shelf.Strconv.ToErrorRange
import Derived.Shelf.Strconv.AtoiAll
import Derived.Shelf.Strconv.ErrVarAll
import Derived.Shelf.Strconv.ParseUintEmpty
import Derived.Shelf.Strconv.ParseUint10b64
import Derived.Shelf.Strconv.ParseUint10b32
import Derived.Shelf.Strconv.ParseUint10b16
import Derived.Shelf.Strconv.ParseUint10b8
import Derived.Shelf.Strconv.ParseUint10At
import Derived.Shelf.Strconv.ParseInt10At64
import Derived.Shelf.Strconv.ParseInt10At32
import Derived.Shelf.Strconv.ParseInt10At16
import Derived.Shelf.Strconv.ParseInt10At8
import Derived.Shelf.Strconv.ParseInt10All
import Derived.Shelf.Strconv.ParseIntPublic10
import Derived.Shelf.Strconv.ErrVarParseInt
import Derived.Shelf.Strings.Search1
import Derived.Shelf.Strings.Search2
import Derived.Shelf.Strings.Search3
import Derived.Shelf.Strings.Cut
import Derived.Shelf.Strings.Count
import Derived.Shelf.Strings.Shaped
import Derived.Shelf.Sort.Plain
import Derived.Shelf.Strings.LastIndex
import Derived.Shelf.Strings.Prefix
import Derived.Shelf.Strings.Split
import Derived.Shelf.Strings.Replace
import Derived.Shelf.Strings.SplitShaped
import Derived.Shelf.Unicode.Decode
import Derived.Shelf.Strings.Runes
import Derived.Shelf.Strings.RuneCount
import Derived.Shelf.Strings.AsciiSet
import Derived.Shelf.Strings.Explode
import Derived.Shelf.Unicode.DecodeSlow
import Derived.Shelf.Unicode.DecodeAny
import Derived.Shelf.Unicode.DecodeLast
import Derived.Shelf.Slices.Turned
import Derived.Shelf.Slices.Equal
import Derived.Ground.Names2Prog
import Derived.Shelf.Slices.ReverseS
import Derived.Shelf.Slices.Clone
import Derived.Shelf.Slices.CompactS
import Derived.Shelf.Slices.SearchI
import Derived.Shelf.Slices.Cells
import Derived.Shelf.Slices.In.SortNone
import Derived.Shelf.Slices.Empties2
import Derived.Ground.PaProg
import Derived.Shelf.Path.Small
import Derived.Test.YtihaaoehhgmphaaGreatDoorProg
import Derived.Lib.LaidTab
import Derived.Sort.OwnSorted
import Derived.Laws.RangeString
import Derived.Shelf.Strings.SlTrimAscii
import Derived.Lib.SliceRun
import Derived.Lib.SplitLaws
set_option linter.all false
def Go.Proofs.bf{α:Type}{x:Option α}{a b:α}(h:x=some a)(e:a=b:=by kernel_rfl):x=some b:=h.trans (congrArg some e)
namespace Go.Proofs.YtihaaoehhgmphaaGreatDoor.L
open IntKind Go.RowKit Vc
structure aeT(P:Program)(ops:Array Oper)(T:TypeId)(key fv:Nat->Value):Prop where
 size:ops.size=17
 ord:∀(i:Nat) o,ops[i]?=some o->∀e∈o.after,Region.binds .any e=true->e.on<i
 o0:∃o T',ops[0]?=some o/\o.guard=none/\o.dst=some 12/\o.op=.makeMap T' none
 ob:∀k,k<7->∃o,ops[2*k+1]?=some o/\o.guard=none/\o.dst=some (13+k)/\∀l w (K:KW),K (key k) w->aIP P l o w K (λ_ _=>False)
 oi:∀k,k<7->∃o f,ops[2*k+2]?=some o/\o.guard=none/\o.dst=none/\o.op=.insert T (.tmp 12) (.tmp (13+k)) (.func f)/\fv k=.func (.func f) #[] #[]/\(∃e∈o.after,Region.binds .any e=true/\e.on=0)/\∃e∈o.after,Region.binds .any e=true/\e.on=2*k+1
 om:∃o,ops[15]?=some o/\o.guard=none/\o.dst=some 20/\o.op=.move (.tmp 12)/\∃e∈o.after,Region.binds .any e=true/\e.on=0
 oa:∃o,ops[16]?=some o/\o.guard=none/\o.dst=some 5/\o.op=.assign (.tmp 20)/\∃e∈o.after,Region.binds .any e=true/\e.on=15
abbrev AW:List Nat:=[5,12,13,14,15,16,17,18,19,20]
structure LI(l0:Fr)(w0:World)(key fv:Nat->Value)(b:Nat->Bool)(l:Fr)(w:World):Prop where
 off:aHe AW l0 l
 kb:∀k,k<7->b (2*k+1)=true->l[13+k]?=some (key k)
 m0:b 0=false->w=w0/\∀k,k<7->b (2*k+2)=false
 m1:b 0=true->l[12]?=some (.map (some w0.heap.size))/\Still w0 w/\w.heap.size=w0.heap.size+1/\Au w w0.heap.size (((List.range 7).filter λk=>b (2*k+2)).map λk=>(key k,fv k))
 mm:b 15=true->l[20]?=some (.map (some w0.heap.size))
 ma:b 16=true->l[5]?=some (.map (some w0.heap.size))
def jL{b:Nat->Bool}{i j:Nat}(h:j≠i):aHw b i j=b j:=aH h
def aeU{b:Nat->Bool}{i:Nat}:aHw b i i=true:=aN rfl
def LN{l0 l:Fr}{d:Nat}{v:Value}(h:aHe AW l0 l)(hd:d∈AW):aHe AW l0 (put l (some d) v):=
 h.trans (aHe.put l (some d) v) (λ_ h=>h) (λt ht=>by rw[Option.mem_toList]at ht;cases ht;exact hd)
def aIH{l:Fr}{d t:Nat}{v:Value}(h:d≠t):(put l (some d) v)[t]?=l[t]?:=rN h
def put_eq{l:Fr}{d:Nat}{v:Value}(h:d<l.length):(put l (some d) v)[d]?=some v:=sX h
def aqU{b:Nat->Bool}{k:Nat}(hk:k<7)(hb:b (2*k+2)=false):((List.range 7).filter λj=>aHw b (2*k+2) (2*j+2)).Perm (((List.range 7).filter λj=>b (2*j+2))++[k]):=by
 have nd:(List.range 7).Nodup:=List.nodup_range;refine(List.perm_ext_iff_of_nodup (nd.filter _) ?_).2 λj=>?_
 .refine Qe.2 ⟨nd.filter _,by simp,λa ha c hc=>?_⟩
  obtain rfl:=jb.1 hc;rintro rfl;rw[FN,hb]at ha;cases ha.2
 .simp only[FN,aJz,mE,jb]
  by_cases hj:j=k
  .subst hj
   rw[aeU];simp[hk]
  .rw[jL (by omega)]
   simp[hj]
def ax2{P:Program}{ops:Array Oper}{T tk te:TypeId}{key fv:Nat->Value}(hL:aeT P ops T key fv)(hm:P.follows .mixedOrders=true)(hT:P.underlying T=some (.map tk te))(KL:WideMaps.KeyLaw P tk)
  (hkeys:∀k,k<7->∃lk,keyOf P tk (key k)=some lk)(hinj:∀j k,j<7->k<7->key j=key k->j=k){id:Nat}{Q:Exit->Act->World->Prop}{l:Fr}{ds:List Deferred}{w:World}(hl:21<=l.length)
  (hQ:∀l' w',aHe AW l l'->l'[5]?=some (.map (some w.heap.size))->Still w w'->w'.heap.size=w.heap.size+1->Au w' w.heap.size ((List.range 7).map λk=>(key k,fv k))->Q .normal (act l' ds) w'):
  (Code.region id ops true).wp P Q (act l ds) w:=by
 refine wp_region_any hm ?_;have e0:Array.replicate ops.size false=yE 17 (λ_=>false):=by apply kM;rw[hL.size];rfl
 rw[e0];refine aqS hL.size (λb a w'=>∃l',a=act l' ds/\LI l w.drew key fv b l' w') ?_ hL.ord ?_ _ _ _ _ (by rw[abQ,hL.size]) ⟨l,rfl,aHe.refl _ _,λ_ _ h=>(by cases h),λ_=>⟨rfl,λ_ _=>rfl⟩,λh=>(by cases h),λh=>(by cases h),λh=>(by cases h)⟩
 .rintro b _ w' ⟨l',rfl,h⟩ hall
  obtain⟨_,h2,h3,h4⟩:=h.m1 (hall 0 (by omega));refine hQ l' w' h.off (h.ma (hall 16 (by omega))) (Still.aeH h2) h3 ?_;have:(List.range 7).filter (λk=>b (2*k+2))=List.range 7:=FA.2 λk hk=>hall _ (by have:=aJz.1 hk;omega);rw[this]at h4;exact h4
 .rintro b _ w' i o ⟨l',rfl,h⟩ ho hb M3
  have hlen:=h.off.1;have hi:i<17:=by rw[<-hL.size];exact(aIf.1 ho).1
  have ax3:i=0\/(∃k,k<7/\i=2*k+1)\/(∃k,k<7/\i=2*k+2)\/i=15\/i=16:=by
   by_cases AX:i=15
   .exact .inr (.inr (.inr (.inl AX)))
   by_cases aHT:i=16
   .exact .inr (.inr (.inr (.inr aHT)))
   by_cases h0:i=0
   .exact .inl h0
   by_cases h2:i%2=0
   .exact .inr (.inr (.inl ⟨i/2-1,by omega,by omega⟩))
   .exact .inr (.inl ⟨i/2,by omega,by omega⟩)
  rcases ax3 with rfl|⟨k,hk,rfl⟩|⟨k,hk,rfl⟩|rfl|rfl
  .obtain⟨o',T',ho',hg,hd,hop⟩:=hL.o0
   rw[ho]at ho';obtain rfl:=bO ho';obtain⟨rfl,hno⟩:=h.m0 hb;refine GF ho hg ?_;simp only[aIP,hop,hd];refine⟨_,rfl,LN h.off (by simp),λk hk hbk=>?_,λhf=>?_,λ_=>⟨put_eq (by omega),(Mod.refl _ _).alloc _,World.size_alloc ..,?_⟩,λhf=>?_,λhf=>?_⟩
   .rw[jL (by omega)]at hbk
    rw[aIH (by omega)];exact h.kb k hk hbk
   .rw[aeU]at hf
    cases hf
   .have:(List.range 7).filter (λk=>aHw b 0 (2*k+2))=[]:=List.filter_eq_nil_iff.2 λk hk=>by
     rw[jL (by omega),hno k (aJz.1 hk)];decide
    rw[this];exact⟨#[],0,Array.getElem?_push_size,List.Perm.nil⟩
   .rw[jL (by omega)]at hf
    rw[aIH (by omega)];exact h.mm hf
   .rw[jL (by omega)]at hf
    rw[aIH (by omega)];exact h.ma hf
  .obtain⟨o',ho',hg,hd,hop⟩:=hL.ob k hk
   rw[ho]at ho';obtain rfl:=bO ho';refine GF ho hg (hop _ _ _ ?_);rw[hd];have hmem:13+k∈AW:=by
    have:k=0\/k=1\/k=2\/k=3\/k=4\/k=5\/k=6:=by omega
    rcases this with rfl|rfl|rfl|rfl|rfl|rfl|rfl<;>simp
   refine⟨_,rfl,LN h.off hmem,λj hj rD=>?_,λhf=>?_,λhf=>?_,λhf=>?_,λhf=>?_⟩
   ·by_cases hjk:j=k
    .subst hjk
     exact put_eq (by omega)
    .rw[jL (by omega)]at rD
     rw[aIH (by omega)];exact h.kb j hj rD
   .rw[jL (by omega)]at hf
    obtain⟨e1,e2⟩:=h.m0 hf;exact⟨e1,λj hj=>by rw[jL (by omega)];exact e2 j hj⟩
   .rw[jL (by omega)]at hf
    obtain⟨e1,e2,e3,e4⟩:=h.m1 hf;refine⟨by rw[aIH (by omega)];exact e1,e2,e3,?_⟩;have:(List.range 7).filter (λj=>aHw b (2*k+1) (2*j+2))=(List.range 7).filter (λj=>b (2*j+2)):=JU λj _=>jL (by omega);rw[this];exact e4
   .rw[jL (by omega)]at hf
    rw[aIH (by omega)];exact h.mm hf
   .rw[jL (by omega)]at hf
    rw[aIH (by omega)];exact h.ma hf
  .obtain⟨o',f,ho',hg,hd,hop,hfv,⟨e1,IE,gy,HV⟩,e2,tP,fO,az2⟩:=hL.oi k hk
   rw[ho]at ho';obtain rfl:=bO ho';have hb0:=M3 e1 IE gy;have hbk:=M3 e2 tP fO;rw[HV]at hb0;rw[az2]at hbk;obtain⟨h12,hst,hsz,ms,c,AY,qj⟩:=h.m1 hb0;have hkk:=h.kb k hk hbk;have hin:∀e∈ms.toList,∃j,j<7/\b (2*j+2)=true/\key j=e.key:=by intro e he;have:(e.key,e.val)∈((List.range 7).filter λk=>b (2*k+2)).map λk=>(key k,fv k):=qj.mem_iff.1 (dM.2 ⟨e,he,rfl⟩);obtain⟨j,hj,AZ⟩:=dM.1 this;rw[FN,aJz]at hj;exact⟨j,hj.1,hj.2,fT Prod.fst AZ⟩
   obtain⟨lk,hlk⟩:=hkeys k hk;have hrun:=aqT (x:=fv k) hT KL AY hlk (λe he=>by
    obtain⟨j,hj,_,AZ⟩:=hin e he;rw[<-AZ];exact hkeys j hj) (λe he hke=>by
    obtain⟨j,hj,rD,AZ⟩:=hin e he;obtain rfl:=hinj j k hj hk (AZ.trans hke);rw[hb]at rD;cases rD)
   refine GF ho hg ?_;simp only[aIP,hop,hd];refine LM h12 (LM hkk ?_);show dN P T (.map (some w.drew.heap.size)) (key k) (.func (.func f) #[] #[]) w' _
   rw[<-hfv];refine⟨_,hrun,l',rfl,h.off,λj hj rD=>?_,λhf=>?_,λ_=>⟨h12,Mod.trans hst (aoN _ _ _) (λ_ h=>h) (λi hi e=>by omega),by simpa[ChangeMaps.setBlock]using hsz,?_⟩,λhf=>?_,λhf=>?_⟩
   .rw[jL (by omega)]at rD
    exact h.kb j hj rD
   .rw[jL (by omega),hb0]at hf
    cases hf
   .refine⟨_,_,by simp only[ChangeMaps.setBlock];rw[Array.getElem?_setIfInBounds_self,aN (by omega)],?_⟩
    rw[JT,aIW];refine List.Perm.trans (qj.append_right _) ?_;have:=(aqU hk hb).map λk=>(key k,fv k);rw[aIW]at this;exact this.symm
   .rw[jL (by omega)]at hf
    exact h.mm hf
   .rw[jL (by omega)]at hf
    exact h.ma hf
  .obtain⟨o',ho',hg,hd,hop,e1,IE,gy,HV⟩:=hL.om
   rw[ho]at ho';obtain rfl:=bO ho';have hb0:=M3 e1 IE gy;rw[HV]at hb0;have h12:=(h.m1 hb0).1;refine GF ho hg ?_;simp only[aIP,u7,hop,hd];refine LM h12 ⟨_,rfl,LN h.off (by simp),λj hj rD=>?_,λhf=>?_,λhf=>?_,λ_=>put_eq (by omega),λhf=>?_⟩
   .rw[jL (by omega)]at rD
    rw[aIH (by omega)];exact h.kb j hj rD
   .rw[jL (by omega),hb0]at hf
    cases hf
   .obtain⟨e1,e2,e3,e4⟩:=h.m1 hb0
    refine⟨by rw[aIH (by omega)];exact e1,e2,e3,?_⟩;have:(List.range 7).filter (λj=>aHw b 15 (2*j+2))=(List.range 7).filter (λj=>b (2*j+2)):=JU λj _=>jL (by omega);rw[this];exact e4
   .rw[jL (by omega)]at hf
    rw[aIH (by omega)];exact h.ma hf
  .obtain⟨o',ho',hg,hd,hop,e1,IE,gy,HV⟩:=hL.oa
   rw[ho]at ho';obtain rfl:=bO ho';have agr:=M3 e1 IE gy;rw[HV]at agr;have nD:=h.mm agr;refine GF ho hg ?_;simp only[aIP,u7,hop,hd];refine LM nD ⟨_,rfl,LN h.off (by simp),λj hj rD=>?_,λhf=>?_,λhf=>?_,λhf=>?_,λ_=>?_⟩
   .rw[jL (by omega)]at rD
    rw[aIH (by omega)];exact h.kb j hj rD
   .rw[jL (by omega)]at hf
    obtain⟨e1,e2⟩:=h.m0 hf;exact⟨e1,λj hj=>by rw[jL (by omega)];exact e2 j hj⟩
   .rw[jL (by omega)]at hf
    obtain⟨e1,e2,e3,e4⟩:=h.m1 hf;refine⟨by rw[aIH (by omega)];exact e1,e2,e3,?_⟩;have:(List.range 7).filter (λj=>aHw b 16 (2*j+2))=(List.range 7).filter (λj=>b (2*j+2)):=JU λj hj=>jL (by have:=aJz.1 hj;omega);rw[this];exact e4
   .rw[jL (by omega)]at hf
    rw[aIH (by omega)];exact h.mm hf
   .have h5:5<l'.length:=by omega
    exact put_eq h5
def ags(w:World)(es:List (Value×Value))(K:(Nat->Value)->World->Prop):Prop:=
 ∀(us:Nat->Value) (w':World),Still w w'->w'.heap.size=w.heap.size+1->Au w' w.heap.size es->K us w'
def afD(P:Program)(c:Code)(es:List (Value×Value)):Prop:=
 ∀(Q:Exit->Act->World->Prop) (l:Fr) (ds:List Deferred) (w:World),21<=l.length->(∀l' w',aHe AW l l'->l'[5]?=some (.map (some w.heap.size))->Still w w'->w'.heap.size=w.heap.size+1->Au w' w.heap.size es->Q .normal (act l' ds) w')->c.wp P Q (act l ds) w
def aoO{P:Program}{f:FuncId}{fn:Func}{A B C D:Code}{args:List Value}{w:World}{R:Ending->World->Prop}{es:List (Value×Value)}(pl:n_)(hC:afD P C es)(hf:P.funcs[f]?=some fn)(hb:fn.body=some (.seq A (.seq B (.seq C D))))(hn:21<=fn.ntmps)
  (h:vc P pl A 2 {lT P fn.results.toList R with normal:=λl1 w1=>vc P pl B 6 {lT P fn.results.toList R with normal:=λl2 w2=>ags w2 es λus w3=>Af us AW l2 λl3=>su l3 5 (.map (some w2.heap.size)) λl4=>vc P pl D 15 (lT P fn.results.toList R) l4 w3} l1 w1} (nS fn.ntmps args) w):Calls P f ⟨args⟩ w R:=by
 refine calls_of_wp hf hb ?_;have e:(Array.mk args)++Array.replicate (fn.ntmps-(Array.mk args).size) undef=⟨nS fn.ntmps args⟩:=by apply kM;simp[BB]
 rw[e];have hlen:21<=(nS fn.ntmps args).length:=by rw[BB];simp only[aHb,Po];omega
 have ret:∀l' w',(lT P fn.results.toList R).ret l' w'->bodyPost P fn R .ret (act l' []) w':=λl' w' hk=>by obtain⟨vs,h1,h2⟩:=aIg (ds:=[]) hk;exact⟨rfl,_,h1,h2⟩
 have Nu:∀l' w',(lT P fn.results.toList R).normal l' w'->bodyPost P fn R .normal (act l' []) w':=λl' w' hk=>by obtain⟨vs,h1,h2⟩:=aIg (ds:=[]) hk;exact⟨rfl,_,h1,h2⟩
 refine wp_seq (nP (ds:=[]) A 2 _ _ w _ h (λl1 w1 NS hk1=>?_) (λi l' w' _ hk=>hk.elim) (λl' w' hk=>ret l' w' hk) (λl' ch w' _ hk=>⟨rfl,hk⟩));refine wp_seq (nP (ds:=[]) B 6 _ _ w1 _ hk1 (λl2 w2 Cu hk2=>?_) (λi l' w' _ hk=>hk.elim) (λl' w' hk=>ret l' w' hk) (λl' ch w' _ hk=>⟨rfl,hk⟩));refine wp_seq (hC _ _ _ _ (by rw[Cu.1,NS.1];exact hlen) λl3 w3 ha3 h5 hst hsz hm=>?_);have h4:=Gg (sp:=[(5,.leaf .raw)]) (vs:=[.map (some w2.heap.size)]) (K:=λl4=>vc P pl D 15 (lT P fn.results.toList R) l4 w3) ha3 ⟨h5,trivial⟩ λus=>hk2 us w3 hst hsz hm;exact nP (ds:=[]) D 15 _ _ w3 _ h4 (λl' w' _ hk=>Nu l' w' hk) (λi l' w' _ hk=>hk.elim) (λl' w' hk=>ret l' w' hk) (λl' ch w' _ hk=>⟨rfl,hk⟩)
abbrev agt:TypeId:=385
abbrev tj:TypeId:=203
def tH(n:Int)(t:List UInt8):Value:=.agg #[.int .i64 n,.string (S t)]
def v_:List (Int×List UInt8×Nat):=[(1,[40],alM),(0,[123],ala),(0,[105,102],akQ),(0,[119,104,105,108,101],aLk),(0,[117,110,116,105,108],aLk),(0,[102,111,114],PT),(0,[99,97,115,101],alb)]
def r_(k:Nat):Value:=let x:=v_.getD k (0,[],0);tH x.1 x.2.1
def Ed(k:Nat):Value:=.func (.func (v_.getD k (0,[],0)).2.2) #[] #[]
def My:List (Value×Value):=(List.range 7).map λk=>(r_ k,Ed k)
noncomputable def Ma:Array Oper:=match Tryz.f267.body with
 |some (.seq _ (.seq _ (.seq (.region _ ops _) _)))=>ops
 |_=>#[]
def seven{p:Nat->Prop}(h0:p 0)(h1:p 1)(h2:p 2)(h3:p 3)(h4:p 4)(h5:p 5)(h6:p 6)(k:Nat)(hk:k<7):p k:=by
 have:k=0\/k=1\/k=2\/k=3\/k=4\/k=5\/k=6:=by omega
 rcases this with rfl|rfl|rfl|rfl|rfl|rfl|rfl<;>assumption
def az3(ops:Array Oper):Bool:=(List.range ops.size).all λi=>match ops[i]? with
 |some o=>o.after.toList.all λe=>!(Region.binds .any e)||Nat.blt e.on i
 |none=>true
def au5{ops:Array Oper}(h:az3 ops=true):∀(i:Nat) o,ops[i]?=some o->∀e∈o.after,Region.binds .any e=true->e.on<i:=by intro i o ho e he hb;have hi:i<ops.size:=(aIf.1 ho).1;have h1:=nO.1 h i (aJz.2 hi);rw[ho]at h1;have h2:=nO.1 h1 e (Array.mem_toList_iff.2 he);rw[hb]at h2;simpa using h2
set_option maxRecDepth 100000 in
def awG:aeT aL Ma 385 r_ Ed where
 size:=rfl
 ord:=au5 (by kernel_rfl)
 o0:=⟨_,_,rfl,rfl,rfl,rfl⟩
 ob:=seven (p:=λk=>∃o,Ma[2*k+1]?=some o/\o.guard=none/\o.dst=some (13+k)/\∀l w (K:KW),K (r_ k) w->aIP aL l o w K (λ_ _=>False))
  ⟨_,rfl,rfl,rfl,λl w K h=>Eq.mp (by kernel_rfl) h⟩ ⟨_,rfl,rfl,rfl,λl w K h=>Eq.mp (by kernel_rfl) h⟩ ⟨_,rfl,rfl,rfl,λl w K h=>Eq.mp (by kernel_rfl) h⟩ ⟨_,rfl,rfl,rfl,λl w K h=>Eq.mp (by kernel_rfl) h⟩ ⟨_,rfl,rfl,rfl,λl w K h=>Eq.mp (by kernel_rfl) h⟩ ⟨_,rfl,rfl,rfl,λl w K h=>Eq.mp (by kernel_rfl) h⟩ ⟨_,rfl,rfl,rfl,λl w K h=>Eq.mp (by kernel_rfl) h⟩
 oi:=seven (p:=λk=>∃o f,Ma[2*k+2]?=some o/\o.guard=none/\o.dst=none/\o.op=.insert 385 (.tmp 12) (.tmp (13+k)) (.func f)/\Ed k=.func (.func f) #[] #[]/\(∃e∈o.after,Region.binds .any e=true/\e.on=0)/\∃e∈o.after,Region.binds .any e=true/\e.on=2*k+1)
  ⟨_,_,rfl,rfl,rfl,rfl,rfl,⟨_,o_ (i:=0) rfl,rfl,rfl⟩,_,o_ (i:=1) rfl,rfl,rfl⟩ ⟨_,_,rfl,rfl,rfl,rfl,rfl,⟨_,o_ (i:=0) rfl,rfl,rfl⟩,_,o_ (i:=1) rfl,rfl,rfl⟩ ⟨_,_,rfl,rfl,rfl,rfl,rfl,⟨_,o_ (i:=0) rfl,rfl,rfl⟩,_,o_ (i:=1) rfl,rfl,rfl⟩ ⟨_,_,rfl,rfl,rfl,rfl,rfl,⟨_,o_ (i:=0) rfl,rfl,rfl⟩,_,o_ (i:=1) rfl,rfl,rfl⟩ ⟨_,_,rfl,rfl,rfl,rfl,rfl,⟨_,o_ (i:=0) rfl,rfl,rfl⟩,_,o_ (i:=1) rfl,rfl,rfl⟩ ⟨_,_,rfl,rfl,rfl,rfl,rfl,⟨_,o_ (i:=0) rfl,rfl,rfl⟩,_,o_ (i:=1) rfl,rfl,rfl⟩ ⟨_,_,rfl,rfl,rfl,rfl,rfl,⟨_,o_ (i:=0) rfl,rfl,rfl⟩,_,o_ (i:=1) rfl,rfl,rfl⟩
 om:=⟨_,rfl,rfl,rfl,rfl,_,o_ (i:=0) rfl,rfl,rfl⟩
 oa:=⟨_,rfl,rfl,rfl,rfl,_,o_ (i:=0) rfl,rfl,rfl⟩
def adW:WideMaps.KeyLaw aL 203:=deep_law (m:=3) (by decide) (by kernel_rfl) (by kernel_rfl) (by kernel_rfl)
end Go.Proofs.YtihaaoehhgmphaaGreatDoor.L
namespace Go.Proofs.YtihaaoehhgmphaaGreatDoor.L
open IntKind Go.RowKit Vc
variable{w:World}
def keyLits_int{d:Nat}{t:TypeId}{n:Int}(ht:Tryz.prog.underlying t=some (.int .i64))(hn:(Lit.int .i64 n).wf=true):Tryz.prog.keyLits (d+1) t [.int .i64 n]=some [.int .i64 n]:=by unfold Program.keyLits;rw[ht];simp[hn]
def apz{d:Nat}{t:TypeId}{s:List UInt8}(ht:Tryz.prog.underlying t=some .string)(hs:(S s).size<=maxLen):∃l,Tryz.prog.keyLits (d+1) t [.string (S s)]=some l:=by unfold Program.keyLits;rw[ht];exact⟨_,aN hs⟩
set_option maxRecDepth 100000 in
def aqV:∃f1 f2:Field,Tryz.prog.underlying tj=some (.struct #[f1,f2])/\f1.offset=0/\f2.offset=1/\Tryz.prog.underlying f1.type=some (.int .i64)/\Tryz.prog.underlying f2.type=some .string/\Tryz.prog.cellsOf f1.type=1/\Tryz.prog.cellsOf f2.type=1/\(#[f1,f2].all (·.name != "_"))=true:=
 ⟨_,_,rfl,rfl,rfl,rfl,rfl,rfl,rfl,by simp⟩
def Aa{n:Int}{t:List UInt8}(hn:(Lit.int .i64 n).wf=true)(ht:(S t).size<=maxLen):∃lk,keyOf aL tj (tH n t)=some lk:=by
 obtain⟨f1,f2,hu,e1,e2,u1,u2,c1,c2,ha⟩:=aqV;have hk:Tryz.prog.keyType tj=true:=by kernel_rfl
 have hc:Tryz.prog.cellsOf tj=2:=by kernel_rfl
 have hf:(tH n t).formed aL tj=true:=by simp only[tH,Value.formed,hu,hc];rfl
 obtain⟨l2,h2⟩:=apz (d:=Tryz.prog.types.size-1) u2 ht;have h1:=keyLits_int (d:=Tryz.prog.types.size-1) u1 hn;have hsz:Tryz.prog.types.size=Tryz.prog.types.size-1+1:=by
  have:0<Tryz.prog.types.size:=Yb λh=>by
   have hx:Nat.ble 1 Tryz.prog.types.size=true:=by kernel_rfl
   rw[h]at hx;cases hx
  omega
 have hl:∃ls,Tryz.prog.keyLits (Tryz.prog.types.size+1) tj [.int .i64 n,.string (S t)]=some ls:=by
  have e0:Tryz.prog.keyLits (Tryz.prog.types.size+1) tj [.int .i64 n,.string (S t)]=([f1,f2].mapM λf=>Tryz.prog.keyLits Tryz.prog.types.size f.type ((([Value.int .i64 n,.string (S t)]:List Value).drop f.offset).take (Tryz.prog.cellsOf f.type))).map List.flatten:=by
   conv=>lhs;unfold Program.keyLits
   rw[hu];exact aN ⟨by rw[hc];rfl,ha⟩
  refine⟨([[.int .i64 n],l2]:List (List Lit)).flatten,e0.trans ?_⟩;rw[aJy,e1,c1];have a1:Tryz.prog.keyLits Tryz.prog.types.size f1.type [.int .i64 n]=some [.int .i64 n]:=by rw[hsz];exact h1
  have a2:Tryz.prog.keyLits Tryz.prog.types.size f2.type [.string (S t)]=some l2:=by rw[hsz];exact h2
  have b2:([f2].mapM λf=>Tryz.prog.keyLits Tryz.prog.types.size f.type ((([Value.int .i64 n,.string (S t)]:List Value).drop f.offset).take (Tryz.prog.cellsOf f.type)))=some [l2]:=by
   rw[aJy,e2,c2];show(do let y<-Tryz.prog.keyLits Tryz.prog.types.size f2.type [.string (S t)];_)=_
   rw[a2];rfl
  rw[b2];show Option.map List.flatten (do let y<-Tryz.prog.keyLits Tryz.prog.types.size f1.type [.int .i64 n];_)=_
  rw[a1];rfl
 obtain⟨ls,hl⟩:=hl;unfold keyOf;rw[hu];exact⟨.string (keyBytes ls),(aN (by rw[hk,hf];rfl)).trans (by show Option.map _ (Tryz.prog.keyLits (Tryz.prog.types.size+1) tj [.int .i64 n,.string (S t)])=_;rw[hl];rfl)⟩
def ax4{n:Nat}(h:n<1000):(Lit.int .i64 (n:Int)).wf=true:=by
 have e1:i64.min= -9223372036854775808:=by decide
 have e2:i64.max=9223372036854775807:=by decide
 simp only[Lit.wf,e1,e2,e_,nk];omega
def acP(k:Nat)(hk:k<7):∃lk,keyOf aL tj (r_ k)=some lk:=
 seven (p:=λk=>∃lk,keyOf aL tj (r_ k)=some lk) (Aa (by decide) (by decide)) (Aa (by decide) (by decide)) (Aa (by decide) (by decide)) (Aa (by decide) (by decide)) (Aa (by decide) (by decide)) (Aa (by decide) (by decide)) (Aa (by decide) (by decide)) k hk
def Ls{n m:Int}{s t:List UInt8}(h:tH n s=tH m t):n=m/\s=t:=by simp only[tH,Value.agg.injEq]at h;have h:=fT Array.toList h;simp only[List.cons.injEq,Value.int.injEq,Value.string.injEq,true_and,and_true]at h;refine⟨h.1,?_⟩;have:=fT ByteArray.toList h.2;simpa[xB]using this
set_option maxRecDepth 100000 in
def awH(j k:Nat)(hj:j<7)(hk:k<7)(h:r_ j=r_ k):j=k:=by
 have h:=Ls h;have key:∀j,j<7->∀k,k<7->(v_.getD j (0,[],0)).1=(v_.getD k (0,[],0)).1/\(v_.getD j (0,[],0)).2.1=(v_.getD k (0,[],0)).2.1->j=k:=by decide
 exact key j hj k hk h
noncomputable def awI:Code:=.region 3 Ma true
set_option maxRecDepth 100000 in
def awJ:afD aL awI My:=λQ l ds w hl h=>ax2 awG rfl rfl adW acP awH hl h
set_option maxRecDepth 100000 in
def au6{g n:Nat}{t:List UInt8}{K:Value->Bool->Prop}(hm:Au w g My)(hn:n<1000)(ht:t.length<1000000)(h1:∀j,j<7->r_ j=tH n t->K (Ed j) true)(h2:(∀j,j<7->r_ j≠tH n t)->K .nilFunc false):
  x_ aL agt (.map (some g)) (tH n t) w K:=by
 obtain⟨ms,c,hg,hp⟩:=hm;obtain⟨te,hT,hz⟩:∃te,Tryz.prog.underlying agt=some (.map tj te)/\∀w,(zeroValue te).run aL w=.ok .nilFunc w:=by refine⟨_,rfl,λw=>?_⟩;rfl
 obtain⟨lk,hlk⟩:=Aa (n:=n) (t:=t) (ax4 hn) (by simp only[maxLen];show t.length<=_;omega);have KL:=Maps.Keyed.of_law adW;have hin:∀e∈ms.toList,∃j,j<7/\r_ j=e.key/\Ed j=e.val:=by intro e he;have:(e.key,e.val)∈My:=hp.mem_iff.1 (dM.2 ⟨e,he,rfl⟩);obtain⟨j,hj,AZ⟩:=dM.1 this;rw[aJz]at hj;exact⟨j,hj,fT Prod.fst AZ,fT Prod.snd AZ⟩
 have hall:∀e∈ms.toList,∃l,keyOf aL tj e.key=some l:=λe he=>by obtain⟨j,hj,e1,_⟩:=hin e he;rw[<-e1];exact acP j hj
 rcases KL.find w hlk ms.toList hall with⟨f1,f2⟩|⟨j,e0,f1,f2,f3⟩
 .refine⟨.nilFunc,false,by simp[Instr.lookup,run_underlying hT,MapKept.run_getObj_map hg,KL.check w _ hlk,f1,hz,Result.andThen],h2 λj hj e=>?_⟩
  have:(r_ j,Ed j)∈ms.toList.map λe=>(e.key,e.val):=hp.mem_iff.2 (dM.2 ⟨j,aJz.2 hj,rfl⟩);obtain⟨e0,wG,ee⟩:=dM.1 this;exact f2 e0 wG ((fT Prod.fst ee).trans e)
 .obtain⟨j,hj,e1,e2⟩:=hin e0 (uf f2)
  refine⟨e0.val,true,by simp[Instr.lookup,run_underlying hT,MapKept.run_getObj_map hg,KL.check w _ hlk,f1,Result.andThen],?_⟩;rw[<-e2];exact h1 j hj (e1.trans f3)
end Go.Proofs.YtihaaoehhgmphaaGreatDoor.L
namespace Go.Proofs.YtihaaoehhgmphaaGreatDoor.L
open IntKind Go.RowKit Vc
set_option maxRecDepth 100000
variable(w:zW)(R:zE)
def XB(p:zO)(depth:Int)(aC:zM w [zI 0,zB false,zS [],zN,zN,zN,zN,zN] 66 λw1=>aq (decide (30<depth)) (R (.panicked [{v:=(.iface 28 (zI 2)),recovered:=false}]) w1) (ags w1 My (λus w2=>aH7 qN [zP p,zI 0] w2 R λcM aIL w3=>x_ aL 385 (.map (some w1.heap.size)) (.agg #[zI cM,zS aIL]) w3 (λlv ok=>jZ (λxJ=>aq ok (gj lv (λg first cap=>aq (cY aL g) (an g ⟨first++([zP p,zI depth]++cap)⟩ w3 (λdm w4=>(∃(aIw:Int)(k6:Bool)(rName:zT)(kV:zO)(kS kT:Nat)(kP:zO)(kN kO:Nat)(kU:zO)(kQ kR:Nat)(k7:zO)(kY kZ:Nat)(aHP:zO)(kW kX:Nat),dm=.returned (.agg #[zI aIw,zB k6,zS rName,zL kV kS kT,zL kP kN kO,zL kU kQ kR,zL k7 kY kZ,zL aHP kW kX])/\zX w4 [zI 0,zB false,zS [],zN,zN,zN,zN,zN] 66 [zI aIw,zB k6,zS rName,zL kV kS kT,zL kP kN kO,zL kU kQ kR,zL k7 kY kZ,zL aHP kW kX] λw6=>aIR w6 λxI m w7=>aHi Ju [zP p] w7 R λr w8=>aq r (zH w8.drew λSw=>j0 Sw (zA w4 5) λv vL vC=>af4 Fy [zP p] w8.drew R λEN D_ DZ D0 w9=>Sw w9/\zM w9 [zS EN,zL D_ DZ D0] 138 λaP=>Sw aP/\eW aP 138 2 40 v vL vC (some (zA w9 0)) 1 (λp1 cp bg=>zC (zA w4 5) bg [zL p1 (vL+1) cp] λbI=>xI bI/\m bI<m w7)) (aHF w8 w4.heap.size λbZ eH b_ aHq aHo eu aHm aHk aHl aHp eo aHn eL eD eE eF eA eB=>zC (zA w 0) w8 [zI bZ,zB eH,zS b_,zL aHq aHo eu,zL aHm aHk aHl,zL aHp eo aHn,zL eL eD eE,zL eF eA eB] λaHa=>aHF aHa w.heap.size λeC iP eP iH iE iF iB iz iA iG iC iD iQ iK iL iM iI iJ=>zR R (.agg #[zI eC,zB iP,zS eP,zL iH iE iF,zL iB iz iA,zL iG iC iD,zL iQ iK iL,zL iM iI iJ]) aHa))\/(∃aHD,dm=.panicked aHD/\R (.panicked aHD) w4))) False)) (gQ (λaHc=>aHy J8 [] w3 R λr1 rL rC bR=>aHi sY [zP p,zI 0,zL r1 rL rC] bR R λr2 ct=>aq r2 (aHc r2 ct) (zM ct [zS [33]] 9 λbX=>aHi sY [zP p,zI 0,zL (some (zA ct 0)) 1 1] bX R λr3 cF=>aHc r3 cF)) λx dI=>aq x (R (.panicked [{v:=(.iface 28 (zI 100)),recovered:=false}]) dI) (gQ (λgI=>aH7 qN [zP p,zI 0] dI R λL7 L8 aHr=>aq (decide (L7=0)) (aH7 qN [zP p,zI 0] aHr R λaxM T5 gR=>aHi Bv [zS T5] gR R λr4 fN=>aq r4 (aH7 qN [zP p,zI 1] fN R λT7 T6 ju=>aq ((decide (T7=1))&&((decide (T6=[40]))&&true)) (aH7 qN [zP p,zI 2] ju R λT8 aeE tM=>gI ((decide (T8=1))&&((decide (aeE=[41]))&&true)) tM) (gI false ju)) (gI false fN)) (gI false aHr)) λx1 pS=>aq x1 (yB aj0 [zP p,zI depth] pS R λax5 aK_ TX Ti SK SL Sf RX RY SM aKX aKY Uq TY TZ T0 Tj Tk pT=>zC (zA w 0) pT [zI ax5,zB aK_,zS TX,zL Ti SK SL,zL Sf RX RY,zL SM aKX aKY,zL Uq TY TZ,zL T0 Tj Tk] λCH=>aHF CH w.heap.size λoG yb mI aJH aJE aJF xm aJC xh xE xo xp yc xS xT xU xK aJI=>zR R (.agg #[zI oG,zB yb,zS mI,zL aJH aJE aJF,zL xm aJC xh,zL xE xo xp,zL yc xS xT,zL xU xK aJI]) CH) (xJ pS)))) λrz=>yB Pu [zP p] rz R λax6 ay2 ax7 awK au7 au8 asF aqW aqX au9 asG asH ay3 ax8 ax9 ax_ awL awM pU=>zC (zA w 0) pU [zI ax6,zB ay2,zS ax7,zL awK au7 au8,zL asF aqW aqX,zL au9 asG asH,zL ay3 ax8 ax9,zL ax_ awL awM] λEM=>aHF EM w.heap.size λxV yd uD xM xF xG xq xj xk xH xu xw ye xW xX xY xN xO=>zR R (.agg #[zI xV,zB yd,zS uD,zL xM xF xG,zL xq xj xk,zL xH xu xw,zL ye xW xX,zL xY xN xO]) EM)))):an Jx #[zP p,zI depth] w R:=
 aoO {live:=[(31,[]),(3988,[]),(499,[(44,(.leaf .bool))]),(1999,[(52,(.leaf .bool))])],c_:=[(8,.held)]} awJ Tryz.func267 rfl (by decide) (Eq.mp (by kernel_rfl) aC)
end Go.Proofs.YtihaaoehhgmphaaGreatDoor.L
namespace Go.Proofs.YtihaaoehhgmphaaGreatDoor.L
open IntKind Go.RowKit Vc
def vg(t t':ag):Prop:=∀c r',t'=c::r'->(c=40\/c=123)->∃r,t=c::r
def vg.head(c:UInt8)(t t':ag):vg (c::t) (c::t'):=λd r' h _=>⟨t,by injection h with h1 h2;rw[h1]⟩
def vg.app{t t':ag}(h:vg t t'):∀y:ag,vg (y++t) (y++t')
 |[]=>h
 |c::y=>vg.head c _ _
def LU(f:ag->Option ag):Prop:=∀p t t',vg t t'->f (p++t)=some t->f (p++t')=some t'
def LT(f:ag->Option ag):Prop:=∀p t t',f (p++t)=some t->f (p++t')=some t'
def Tx{f:ag->Option ag}(hf:aIm f){t:ag}{A:Prop}(h:f t=some t):A:=absurd (hf _ _ h) (Bq _)
def aK7{p t:ag}(h:p++t=t):p=[]:=by have:=fT List.length h;rw[aHb]at this;exact mC (by omega)
def acQ{p t x:ag}(h:t<:+x)(hx:x<:+p++t):∃z y,x=y++t/\p=z++y:=by obtain⟨y,rfl⟩:=h;obtain⟨z,hz⟩:=hx;rw[<-j9]at hz;exact⟨z,y,rfl,(List.append_cancel_right hz).symm⟩
def ZA:LT rW
 |[],t,t',h=>Tx (λ_ _=>F0) h
 |a::p,t,t',h=>by
  simp only[qP,rW]at h⊢;split at h
  .rename_i ha
   rw[aN ha,aK7 (bO h)];rfl
  .rename_i ha
   rw[aH ha];exact ZA p t t' h
def asI{v:UInt8->ag->Option ag}(hv:∀e,LT (v e))(hk:∀e,aIm (v e)):LU (kC v):=by
 intro p t t' hs h;cases p with
 |nil=>exact Tx (RI hk) h
 |cons a p=>
  simp only[qP,kC]at h⊢
  by_cases kG:a=92
  .rw[aN kG]at h⊢
   cases p with
   |nil=>
    cases t with
    |nil=>cases h
    |cons b t=>have h:t=b::t:=bO h;have:=fT List.length h;simp at this
   |cons b p=>have h:p++t=t:=bO h;rw[aK7 h];rfl
  .rw[aH kG]at h⊢
   by_cases pW:a=39
   .rw[aN pW]at h⊢
    exact ZA _ _ _ h
   .rw[aH pW]at h⊢
    by_cases ot:a=34
    .rw[aN ot]at h⊢
     exact hv _ _ _ _ h
    .rw[aH ot]at h⊢
     cases p with
     |nil=>
      cases t' with
      |nil=>rfl
      |cons c r'=>
       simp only[Dp,aJJ];have hno:∀k,k=40\/k=123->¬(a=36/\c=k):=by
        rintro k hk' ⟨rfl,rfl⟩;obtain⟨r,rfl⟩:=hs c r' rfl hk';rcases hk' with rfl|rfl
        .have h:v 41 r=some (40::r):=h
         have:=hk _ _ _ h;simp at this;omega
        .have h:v 125 r=some (123::r):=h
         have:=hk _ _ _ h;simp at this;omega
       rw[aH (hno 40 (.inl rfl)),aH (hno 123 (.inr rfl))]
     |cons b p=>
      simp only[qP,aJJ]at h⊢
      by_cases oZ:a=36/\b=40
      .rw[aN oZ]at h⊢
       exact hv _ _ _ _ h
      .rw[aH oZ]at h⊢
       by_cases uX:a=36/\b=123
       .rw[aN uX]at h⊢
        exact hv _ _ _ _ h
       .rw[aH uX]at h⊢
        have:=fT List.length (bO h);simp at this;omega
def Sl{d:Nat}{e:UInt8}(hu:LU (fH d))(hq:d≠0->LT (dV (d-1) 41)):∀(n:Nat) (p:ag),p.length<=n->∀t t',dV d e (p++t)=some t->dV d e (p++t')=some t'
 |_,[],_,t,t',h=>Tx (aI0 d e) h
 |0,a::p,hn,t,t',h=>absurd hn (by simp)
 |n+1,a::p,hn,t,t',h=>by
  have ih:=Sl (e:=e) hu hq n;simp only[a_]at hn;rw[qP,ZZ]at h⊢
  by_cases hae:a=e
  .rw[aN hae]at h⊢
   rw[aK7 (bO h)];rfl
  .rw[aH hae]at h⊢
   -- what goes on
   have on:∀{f:ag->Option ag} (q:ag),q.length<=n+1->Ends f->aIm f->(∀z y:ag,q=z++y->y≠[]->f (z++(y++t))=some (y++t)->f (z++(y++t'))=some (y++t'))->(f (q++t)).bind (dV d e)=some t->(f (q++t')).bind (dV d e)=some t':=by
    intro f q hq he ht hf h;obtain⟨x,hx,hx2⟩:=XG.1 h;obtain⟨z,y,rfl,rfl⟩:=acQ (Z0 d e _ _ hx2) (he _ _ hx);have hlen:=ht _ _ hx;have Mz:=aI0 d e _ _ hx2;have hy:y≠[]:=by rintro rfl;simp at Mz
    rw[j9]at hx⊢;rw[hf z y rfl hy hx];simp only[aHb]at hlen hq;exact ih y (by omega) t t' hx2
   by_cases pW:e=34/\a=39
   .rw[aN pW]at h⊢
    by_cases hd:d=0
    .rw[aN hd]at h;cases h
    .rw[aH hd]at h⊢
     exact ih p (by omega) t t' h
   .rw[aH pW]at h⊢
    by_cases oZ:e=41/\a=40
    .rw[aN oZ]at h⊢
     by_cases hd:d=0
     .rw[aN hd]at h;cases h
     .rw[aH hd]at h⊢
      exact on p (by omega) (Z0 _ _) (aI0 _ _) (λz y _ _ hf=>hq hd _ _ _ hf) h
    .rw[aH oZ]at h⊢
     exact on (a::p) hn (R1 _) (s_ _) (λz y _ hy hf=>hu _ _ _ (by obtain⟨c,y,rfl⟩:=aJl hy;exact vg.head c _ _) hf) h
def adX:∀d,LU (fH d)/\∀e,LT (dV d e)
 |0=>by
  have h0:LU (fH 0):=λp t t' _ h=>by cases h
  exact⟨h0,λe p t t' h=>Sl h0 (λh=>absurd rfl h) _ p (aR _) t t' h⟩
 |d+1=>by have ih:=(adX d).2;have hu:LU (fH (d+1)):=asI ih (aI0 d);exact⟨hu,λe p t t' h=>Sl hu (λ_=>ih 41) _ p (aR _) t t' h⟩
end Go.Proofs.YtihaaoehhgmphaaGreatDoor.L
namespace Go.Proofs.YtihaaoehhgmphaaGreatDoor.D
open IntKind Go.RowKit Vc
structure St where
 n:Nat
 F:Nat->UInt8
 e:Bool
 p:Int
 m:Int
structure aJS(w:World)(g b:Nat)(s:St):Prop where
 top:Row w g amX #[.slice (some ⟨b,0,none⟩) s.n s.n,.bool s.e,.int .i64 s.p,.int .u64 s.m]
 bytes:Row w b amY ⟨BS s.F (s.n*64)⟩
structure St.Ok(s:St):Prop where
 n1:1<=s.n
 n2:s.n<=4096
 p0:0<=s.p
 p1:s.p<9223372036854775808
 m0:0<=s.m
 m1:s.m<18446744073709551616
variable{w:World}{g b h q:Nat}{s:St}
def aJS.mod{w':World}{T:Nat->Prop}(d:aJS w g b s)(hm:Mod T w w')(h1:¬T g)(h2:¬T b):aJS w' g b s:=⟨d.top.mod hm h1,d.bytes.mod hm h2⟩
def anZ(d:aJS w g b s)(k:Int):an Ql #[.pointer (some ⟨g,0,none⟩),.int .i64 k] w
  (λe w'=>e=.returned (.pointer (if 0<=k/\k<s.n then some ⟨b,k.toNat*64,none⟩else none))/\w'=w):=by
 apply alj;refine ax (λh=>?_) (λh=>⟨_,_,_,d.top.dh rfl,?_⟩)
 .rw[aH (by have:=aQ h;omega)];exact⟨rfl,rfl⟩
 .have h0:=aZ h
  refine ax (λh=>?_) (λh=>⟨_,_,_,d.top.dh rfl,by omega,by have:=aZ h;omega,?_⟩)
  .rw[aH (by have:=aQ h;omega)];exact⟨rfl,rfl⟩
  .rw[aN (by have:=aZ h;omega)]
   exact⟨by simp[bM],rfl⟩
def anj(d:aJS w g b s)(k:Int):an PR #[.pointer (some ⟨g,0,none⟩),.int .i64 k] w
  (λe w'=>e=.returned (if 0<=k/\k<s.n then .tuple #[.string (S (yA s.F (k.toNat*64) 64)),.int .i64 0]else .tuple #[.string (S []),.int .i64 1])/\w'=w):=by
 apply akG;refine(anZ d k).mono ?_;rintro _ w' ⟨rfl,rfl⟩;refine .inl ⟨_,rfl,?_⟩
 by_cases hk:0<=k/\k<s.n
 .rw[aN hk,aN hk]
  refine⟨_,aqr d.bytes (by omega),rfl,rfl⟩
 .rw[aH hk,aH hk]
  exact⟨rfl,rfl⟩
def St.limit(s:St)(n m:Int):St:={s with e:=false,p:=if 0>n then 0 else n,m:=m}
def ay4(F T:Nat->UInt8)(m:Int)(o x:Nat):Nat->UInt8:=λj=>if o<=j/\j<o+x/\bit m (j-o)=true then T (j-o)else F j
def St.put(s:St)(k:Nat)(t:Nat->UInt8):St:={s with F:=λj=>if k*64<=j/\j<k*64+64 then t (j-k*64)else s.F j}
def St.write(s:St)(k:Int)(text:List UInt8):Int×St:=
 if 0<=k/\k<s.n/\text.length<=64 then
  if s.e then(0,s.put k.toNat λj=>text.getD j 0)
  else if 0<s.p then(0,{s.put k.toNat (λj=>text.getD j 0)with p:=s.p-1})
  else(13,{s with F:=ay4 s.F (λj=>text.getD j 0) s.m (k.toNat*64) 64,m:=0})
 else(1,s)
def St.new(n:Nat):St:=⟨n,λ_=>0,true,0,0⟩
def an0(z:List Value)(hz:∀v∈z,v=.int .u8 0)(h0:z≠[])(N:Nat):madeCells ⟨z⟩ N=⟨BS (λ_=>0) N⟩:=by
 apply kM;apply qO;intro i
 by_cases h:i<N
 .have hl:0<z.length:=by cases z with
   |nil=>exact(h0 rfl).elim
   |cons a r=>simp
  have hm:i%z.length<z.length:=Dz _ hl;rw[aaq h];simp[madeCells,h];simp[hm];exact hz _ (kL _)
 .rw[ud (by simp[madeCells];omega),ud (by simp;omega)]
def anA{n:Int}(h1:1<=n)(h2:n<=4096):an Rk #[.int .i64 n] w
  (λe w'=>∃g b,e=.returned (.tuple #[.pointer (some ⟨g,0,none⟩),.int .i64 0])/\Mod (λ_=>False) w w'/\w.heap.size<=g/\w.heap.size<=b/\aJS w' g b (St.new n.toNat)):=by
 apply am6;refine ax (λh=>(by have:=aQ h;omega)) (λ_=>ax (λh=>(by have:=aQ h;omega)) (λ_=>⟨by omega,by omega,by omega,by omega,?_⟩));rw[an0 _ (by intro v hv;simpa using hv) (by simp)];refine⟨_,w.heap.size,rfl,((Mod.refl _ _).alloc _).alloc _,by simp,aR _,?_,?_⟩
 .exact Row.new _ _ _
 .exact(Row.new w _ _).alloc _
end Go.Proofs.YtihaaoehhgmphaaGreatDoor.D
namespace Go.Proofs.YtihaaoehhgmphaaGreatDoor.A
open IntKind Go.RowKit Vc
def aqY(p q r:Addr)(w:World):
  CallsD aL 21 #[.pointer (some p),.pointer (some q),.pointer (some r)] .returning w λe u' w'=>e=.returned (.tuple #[])/\u'=.returning/\w'=w:=by
 refine callsD_of_wpS Tryz.func21 rfl λc₀ cs hu=>?_;apply wpS_seq;apply wpS_region;simp[wpOpsS,go_sem,recoverD,hu,Tryz.ntmps21,Exit.thenS];apply wpS_seq;apply wpS_region;simp[wpOpsS,go_sem,Tryz.ntmps21,Exit.thenS];refine wpS_cond (t:=false) (by simp[Act.eval,Array.replicate]) ?_;simp only[l9,jq];refine wpS_of_wp (wp_skip ?_);cases c₀;simp_all [bodyPostS,results,Tryz.results21]
end Go.Proofs.YtihaaoehhgmphaaGreatDoor.A
namespace Go.Proofs.YtihaaoehhgmphaaGreatDoor.L.U
open IntKind
def HB(sep:ag):List ag->ag
 |[]=>[]
 |x::r=>x++r.flatMap λy=>sep++y
end Go.Proofs.YtihaaoehhgmphaaGreatDoor.L.U
namespace Go.Proofs
open Go.Shelf
def Tryz.lays165_ren:Go.Shelf.Ren:=⟨λ|165=>151|240=>108|241=>209|276=>163|277=>276|n=>n,λ|70=>84|3=>3|0=>0|4=>4|9=>9|20=>20|72=>86|37=>22|164=>230|5=>5|n=>n,λ|n=>n⟩
def Tryz.lays165:Go.Proofs.Lays.n165 aL Tryz.lays165_ren:={
 mixed:=by kernel_rfl
 f165:=bf Tryz.func151
 f240:=bf Tryz.func108
 f241:=bf Tryz.func209
 f276:=bf Tryz.func163
 f277:=bf Tryz.func276
 t0:=Tryz.underlying0
 a0:=Tryz.isAgg0
 z0:=Tryz.sizeOf0
 v0:=Tryz.zeroValue0
 t3:=Tryz.underlying3
 a3:=Tryz.isAgg3
 z3:=Tryz.sizeOf3
 v3:=Tryz.zeroValue3
 t4:=Tryz.underlying4
 a4:=Tryz.isAgg4
 z4:=Tryz.sizeOf4
 v4:=Tryz.zeroValue4
 t9:=Tryz.underlying9
 a9:=Tryz.isAgg9
 z9:=Tryz.sizeOf9
 v9:=Tryz.zeroValue9
 t20:=Tryz.underlying20
 a20:=Tryz.isAgg20
 z20:=Tryz.sizeOf20
 v20:=Tryz.zeroValue20
 t37:=Tryz.underlying22
 a37:=Tryz.isAgg22
 z37:=Tryz.sizeOf22
 v37:=Tryz.zeroValue22
 t70:=Tryz.underlying84
 a70:=Tryz.isAgg84
 z70:=Tryz.sizeOf84
 v70:=Tryz.zeroValue84
 t72:=Tryz.underlying86
 a72:=Tryz.isAgg86
 z72:=Tryz.sizeOf86
 v72:=Tryz.zeroValue86
 t164:=Tryz.underlying230
 a164:=Tryz.isAgg230
 z164:=Tryz.sizeOf230
 v164:=Tryz.zeroValue230}
def Tryz.amS:Builder.Extra aL Tryz.lays165_ren:={
 sizeBuilder:=by kernel_rfl
 liesBuilder:=by kernel_rfl
 t5:=Tryz.underlying5
 a5:=Tryz.isAgg5
 z5:=Tryz.sizeOf5
 v5:=Tryz.zeroValue5
 infoByte:=by kernel_rfl
 cellsByte:=by kernel_rfl
 sizeByte:=by kernel_rfl
 neB5:=by decide}
open Go.RowKit in
def Tryz.Builder_Grow_fresh(B b n:Nat)(w:World)(hB:B<=b)(hbk:w.heap[b]?=some (.cells #[.pointer none,.slice none 0 0] 86 (0,0)))(hBw:B<=w.heap.size)(hn:n<=281474976710656):
  an 151 #[.pointer (some ⟨b,0,none⟩),.int .i64 n] w λe w'=>e=.returned (.tuple #[])/\(Lib.BuilderAt 86 5 B b (.pointer (some ⟨b,0,none⟩)) [] w'/\Below B w w'):=Any.Builder_Grow_fresh Tryz.lays165 Tryz.amS B b n w hB hbk hBw hn
def Tryz.lays156_ren:Go.Shelf.Ren:=⟨λ|156=>83|165=>151|166=>40|169=>43|240=>108|241=>209|276=>163|277=>276|n=>n,λ|31=>25|9=>9|3=>3|4=>4|0=>0|20=>20|72=>86|76=>89|70=>84|37=>22|75=>88|127=>174|164=>230|5=>5|80=>73|n=>n,λ|n=>n⟩
def Tryz.lays156:Go.Proofs.Lays.n156 aL Tryz.lays156_ren:={
 mixed:=by kernel_rfl
 f156:=bf Tryz.func83
 f165:=bf Tryz.func151
 f166:=bf Tryz.func40
 f169:=bf Tryz.func43
 f240:=bf Tryz.func108
 f241:=bf Tryz.func209
 f276:=bf Tryz.func163
 f277:=bf Tryz.func276
 t0:=Tryz.underlying0
 a0:=Tryz.isAgg0
 z0:=Tryz.sizeOf0
 v0:=Tryz.zeroValue0
 t3:=Tryz.underlying3
 a3:=Tryz.isAgg3
 z3:=Tryz.sizeOf3
 v3:=Tryz.zeroValue3
 t4:=Tryz.underlying4
 a4:=Tryz.isAgg4
 z4:=Tryz.sizeOf4
 v4:=Tryz.zeroValue4
 t9:=Tryz.underlying9
 a9:=Tryz.isAgg9
 z9:=Tryz.sizeOf9
 v9:=Tryz.zeroValue9
 t20:=Tryz.underlying20
 a20:=Tryz.isAgg20
 z20:=Tryz.sizeOf20
 v20:=Tryz.zeroValue20
 t31:=Tryz.underlying25
 a31:=Tryz.isAgg25
 z31:=Tryz.sizeOf25
 v31:=Tryz.zeroValue25
 t37:=Tryz.underlying22
 a37:=Tryz.isAgg22
 z37:=Tryz.sizeOf22
 v37:=Tryz.zeroValue22
 t70:=Tryz.underlying84
 a70:=Tryz.isAgg84
 z70:=Tryz.sizeOf84
 v70:=Tryz.zeroValue84
 t72:=Tryz.underlying86
 a72:=Tryz.isAgg86
 z72:=Tryz.sizeOf86
 v72:=Tryz.zeroValue86
 t75:=Tryz.underlying88
 a75:=Tryz.isAgg88
 z75:=Tryz.sizeOf88
 v75:=Tryz.zeroValue88
 t76:=Tryz.underlying89
 a76:=Tryz.isAgg89
 z76:=Tryz.sizeOf89
 v76:=Tryz.zeroValue89
 t127:=Tryz.underlying174
 a127:=Tryz.isAgg174
 z127:=Tryz.sizeOf174
 v127:=Tryz.zeroValue174
 t164:=Tryz.underlying230
 a164:=Tryz.isAgg230
 z164:=Tryz.sizeOf230
 v164:=Tryz.zeroValue230}
def Tryz.YE:Builder.Extra aL Tryz.lays156_ren:={
 sizeBuilder:=by kernel_rfl
 liesBuilder:=by kernel_rfl
 t5:=Tryz.underlying5
 a5:=Tryz.isAgg5
 z5:=Tryz.sizeOf5
 v5:=Tryz.zeroValue5
 infoByte:=by kernel_rfl
 cellsByte:=by kernel_rfl
 sizeByte:=by kernel_rfl
 neB5:=by decide}
open Go.RowKit in
def Tryz.strings_Join_none(a:Option Addr)(c:Nat)(sep:ByteArray)(w:World):
  an 83 #[.slice a 0 c,.string sep] w λe w'=>e=.returned (.string ⟨#[]⟩)/\w'=w:=Any.strings_Join_none Tryz.lays156 Tryz.YE a c sep w
open Go.RowKit in
def Tryz.strings_Join(bk o c:Nat)(xs:List ByteArray)(sep:ByteArray)(w:World)(hcells:∀(j:Nat) x,xs[j]?=some x->w.cell? ⟨bk,o+j,none⟩=some (.string x))(hbk:bk<w.heap.size)(hN:xs.length<=140737488355328)(hcap:xs.length<=c)(hlen:(Lib.join (xs.map (·.data.toList)) sep.data.toList).length<=140737488355328):
  an 83 #[.slice (some ⟨bk,o,none⟩) xs.length c,.string sep] w λe w'=>e=.returned (.string ⟨(Lib.join (xs.map (·.data.toList)) sep.data.toList).toArray⟩)/\Below w.heap.size w w':=Any.strings_Join Tryz.lays156 Tryz.YE bk o c xs sep w hcells hbk hN hcap hlen
def Tryz.lays161_ren:Go.Shelf.Ren:=⟨λ|161=>71|231=>139|227=>140|233=>141|235=>142|228=>198|197=>164|151=>199|260=>229|152=>268|137=>192|119=>353|224=>282|225=>281|217=>265|266=>342|n=>n,λ|9=>9|4=>4|3=>3|5=>5|117=>216|116=>215|0=>0|124=>219|105=>232|21=>21|119=>344|46=>223|139=>347|138=>346|n=>n,λ|3=>1|4=>2|n=>n⟩
def Tryz.lays161:Go.Proofs.Lays.n161 aL Tryz.lays161_ren:={
 mixed:=by kernel_rfl
 f119:=bf Tryz.func353
 f137:=bf Tryz.func192
 f151:=bf Tryz.func199
 f152:=bf Tryz.func268
 f161:=bf Tryz.func71
 f197:=bf Tryz.func164
 f217:=bf Tryz.func265
 f224:=bf Tryz.func282
 f225:=bf Tryz.func281
 f227:=bf Tryz.func140
 f228:=bf Tryz.func198
 f231:=bf Tryz.func139
 f233:=bf Tryz.func141
 f235:=bf Tryz.func142
 f260:=bf Tryz.func229
 f266:=bf Tryz.func342
 t0:=Tryz.underlying0
 a0:=Tryz.isAgg0
 z0:=Tryz.sizeOf0
 v0:=Tryz.zeroValue0
 t3:=Tryz.underlying3
 a3:=Tryz.isAgg3
 z3:=Tryz.sizeOf3
 v3:=Tryz.zeroValue3
 t4:=Tryz.underlying4
 a4:=Tryz.isAgg4
 z4:=Tryz.sizeOf4
 v4:=Tryz.zeroValue4
 t5:=Tryz.underlying5
 a5:=Tryz.isAgg5
 z5:=Tryz.sizeOf5
 v5:=Tryz.zeroValue5
 t9:=Tryz.underlying9
 a9:=Tryz.isAgg9
 z9:=Tryz.sizeOf9
 v9:=Tryz.zeroValue9
 t21:=Tryz.underlying21
 a21:=Tryz.isAgg21
 z21:=Tryz.sizeOf21
 v21:=Tryz.zeroValue21
 t46:=Tryz.underlying223
 a46:=Tryz.isAgg223
 z46:=Tryz.sizeOf223
 v46:=Tryz.zeroValue223
 t105:=Tryz.underlying232
 a105:=Tryz.isAgg232
 z105:=Tryz.sizeOf232
 v105:=Tryz.zeroValue232
 t116:=Tryz.underlying215
 a116:=Tryz.isAgg215
 z116:=Tryz.sizeOf215
 t117:=Tryz.underlying216
 a117:=Tryz.isAgg216
 z117:=Tryz.sizeOf216
 v117:=Tryz.zeroValue216
 t119:=Tryz.underlying344
 a119:=Tryz.isAgg344
 z119:=Tryz.sizeOf344
 t124:=Tryz.underlying219
 a124:=Tryz.isAgg219
 z124:=Tryz.sizeOf219
 v124:=Tryz.zeroValue219
 t138:=Tryz.underlying346
 a138:=Tryz.isAgg346
 z138:=Tryz.sizeOf346
 v138:=Tryz.zeroValue346
 t139:=Tryz.underlying347
 a139:=Tryz.isAgg347
 z139:=Tryz.sizeOf347
 v139:=Tryz.zeroValue347
 g3:=by kernel_rfl
 g4:=by kernel_rfl}
def Tryz.lays162_ren:Go.Shelf.Ren:=⟨λ|162=>161|232=>226|227=>140|234=>227|236=>228|228=>198|271=>295|151=>199|120=>365|197=>164|152=>268|260=>229|137=>192|119=>353|224=>282|225=>281|217=>265|266=>342|n=>n,λ|9=>9|4=>4|3=>3|5=>5|117=>216|116=>215|0=>0|124=>219|21=>21|105=>232|46=>223|119=>344|139=>347|138=>346|n=>n,λ|3=>1|4=>2|n=>n⟩
def Tryz.lays162:Go.Proofs.Lays.n162 aL Tryz.lays162_ren:={
 mixed:=by kernel_rfl
 f119:=bf Tryz.func353
 f120:=bf Tryz.func365
 f137:=bf Tryz.func192
 f151:=bf Tryz.func199
 f152:=bf Tryz.func268
 f162:=bf Tryz.func161
 f197:=bf Tryz.func164
 f217:=bf Tryz.func265
 f224:=bf Tryz.func282
 f225:=bf Tryz.func281
 f227:=bf Tryz.func140
 f228:=bf Tryz.func198
 f232:=bf Tryz.func226
 f234:=bf Tryz.func227
 f236:=bf Tryz.func228
 f260:=bf Tryz.func229
 f266:=bf Tryz.func342
 f271:=bf Tryz.func295
 t0:=Tryz.underlying0
 a0:=Tryz.isAgg0
 z0:=Tryz.sizeOf0
 v0:=Tryz.zeroValue0
 t3:=Tryz.underlying3
 a3:=Tryz.isAgg3
 z3:=Tryz.sizeOf3
 v3:=Tryz.zeroValue3
 t4:=Tryz.underlying4
 a4:=Tryz.isAgg4
 z4:=Tryz.sizeOf4
 v4:=Tryz.zeroValue4
 t5:=Tryz.underlying5
 a5:=Tryz.isAgg5
 z5:=Tryz.sizeOf5
 v5:=Tryz.zeroValue5
 t9:=Tryz.underlying9
 a9:=Tryz.isAgg9
 z9:=Tryz.sizeOf9
 v9:=Tryz.zeroValue9
 t21:=Tryz.underlying21
 a21:=Tryz.isAgg21
 z21:=Tryz.sizeOf21
 v21:=Tryz.zeroValue21
 t46:=Tryz.underlying223
 a46:=Tryz.isAgg223
 z46:=Tryz.sizeOf223
 v46:=Tryz.zeroValue223
 t105:=Tryz.underlying232
 a105:=Tryz.isAgg232
 z105:=Tryz.sizeOf232
 v105:=Tryz.zeroValue232
 t116:=Tryz.underlying215
 a116:=Tryz.isAgg215
 z116:=Tryz.sizeOf215
 t117:=Tryz.underlying216
 a117:=Tryz.isAgg216
 z117:=Tryz.sizeOf216
 v117:=Tryz.zeroValue216
 t119:=Tryz.underlying344
 a119:=Tryz.isAgg344
 z119:=Tryz.sizeOf344
 t124:=Tryz.underlying219
 a124:=Tryz.isAgg219
 z124:=Tryz.sizeOf219
 v124:=Tryz.zeroValue219
 t138:=Tryz.underlying346
 a138:=Tryz.isAgg346
 z138:=Tryz.sizeOf346
 v138:=Tryz.zeroValue346
 t139:=Tryz.underlying347
 a139:=Tryz.isAgg347
 z139:=Tryz.sizeOf347
 v139:=Tryz.zeroValue347
 g3:=by kernel_rfl
 g4:=by kernel_rfl}
open Go.RowKit in
def Tryz.strings_TrimRight_one(s:ByteArray)(c:UInt8)(hc:c.toNat<128)(w:World)(hs:s.size<=9223372036854775807):
  an 161 #[.string s,.string ⟨#[c]⟩] w λe w'=>e=.returned (.string ⟨(Lib.trimRightB s.data.toList c).toArray⟩)/\w'=w:=Any.strings_TrimRight_one Tryz.lays162 s c hc w hs
def Tryz.lays160_ren:Go.Shelf.Ren:=⟨λ|160=>273|232=>226|231=>139|227=>140|234=>227|233=>141|236=>228|235=>142|228=>198|271=>295|151=>199|197=>164|120=>365|152=>268|260=>229|137=>192|119=>353|224=>282|225=>281|217=>265|266=>342|n=>n,λ|9=>9|4=>4|3=>3|5=>5|117=>216|116=>215|0=>0|124=>219|21=>21|105=>232|46=>223|119=>344|139=>347|138=>346|n=>n,λ|3=>1|4=>2|n=>n⟩
def Tryz.lays160:Go.Proofs.Lays.n160 aL Tryz.lays160_ren:={
 mixed:=by kernel_rfl
 f119:=bf Tryz.func353
 f120:=bf Tryz.func365
 f137:=bf Tryz.func192
 f151:=bf Tryz.func199
 f152:=bf Tryz.func268
 f160:=bf Tryz.func273
 f197:=bf Tryz.func164
 f217:=bf Tryz.func265
 f224:=bf Tryz.func282
 f225:=bf Tryz.func281
 f227:=bf Tryz.func140
 f228:=bf Tryz.func198
 f231:=bf Tryz.func139
 f232:=bf Tryz.func226
 f233:=bf Tryz.func141
 f234:=bf Tryz.func227
 f235:=bf Tryz.func142
 f236:=bf Tryz.func228
 f260:=bf Tryz.func229
 f266:=bf Tryz.func342
 f271:=bf Tryz.func295
 t0:=Tryz.underlying0
 a0:=Tryz.isAgg0
 z0:=Tryz.sizeOf0
 v0:=Tryz.zeroValue0
 t3:=Tryz.underlying3
 a3:=Tryz.isAgg3
 z3:=Tryz.sizeOf3
 v3:=Tryz.zeroValue3
 t4:=Tryz.underlying4
 a4:=Tryz.isAgg4
 z4:=Tryz.sizeOf4
 v4:=Tryz.zeroValue4
 t5:=Tryz.underlying5
 a5:=Tryz.isAgg5
 z5:=Tryz.sizeOf5
 v5:=Tryz.zeroValue5
 t9:=Tryz.underlying9
 a9:=Tryz.isAgg9
 z9:=Tryz.sizeOf9
 v9:=Tryz.zeroValue9
 t21:=Tryz.underlying21
 a21:=Tryz.isAgg21
 z21:=Tryz.sizeOf21
 v21:=Tryz.zeroValue21
 t46:=Tryz.underlying223
 a46:=Tryz.isAgg223
 z46:=Tryz.sizeOf223
 v46:=Tryz.zeroValue223
 t105:=Tryz.underlying232
 a105:=Tryz.isAgg232
 z105:=Tryz.sizeOf232
 v105:=Tryz.zeroValue232
 t116:=Tryz.underlying215
 a116:=Tryz.isAgg215
 z116:=Tryz.sizeOf215
 t117:=Tryz.underlying216
 a117:=Tryz.isAgg216
 z117:=Tryz.sizeOf216
 v117:=Tryz.zeroValue216
 t119:=Tryz.underlying344
 a119:=Tryz.isAgg344
 z119:=Tryz.sizeOf344
 t124:=Tryz.underlying219
 a124:=Tryz.isAgg219
 z124:=Tryz.sizeOf219
 v124:=Tryz.zeroValue219
 t138:=Tryz.underlying346
 a138:=Tryz.isAgg346
 z138:=Tryz.sizeOf346
 v138:=Tryz.zeroValue346
 t139:=Tryz.underlying347
 a139:=Tryz.isAgg347
 z139:=Tryz.sizeOf347
 v139:=Tryz.zeroValue347
 g3:=by kernel_rfl
 g4:=by kernel_rfl}
def Tryz.lays125_ren:Go.Shelf.Ren:=⟨λ|125=>158|128=>221|129=>222|n=>n,λ|46=>223|3=>3|51=>279|53=>189|4=>4|5=>5|9=>9|n=>n,λ|n=>n⟩
def Tryz.lays125:Go.Proofs.Lays.n125 aL Tryz.lays125_ren:={
 mixed:=by kernel_rfl
 f125:=bf Tryz.func158
 f128:=bf Tryz.func221
 f129:=bf Tryz.func222
 t3:=Tryz.underlying3
 a3:=Tryz.isAgg3
 z3:=Tryz.sizeOf3
 v3:=Tryz.zeroValue3
 t4:=Tryz.underlying4
 a4:=Tryz.isAgg4
 z4:=Tryz.sizeOf4
 v4:=Tryz.zeroValue4
 t5:=Tryz.underlying5
 a5:=Tryz.isAgg5
 z5:=Tryz.sizeOf5
 v5:=Tryz.zeroValue5
 t9:=Tryz.underlying9
 a9:=Tryz.isAgg9
 z9:=Tryz.sizeOf9
 v9:=Tryz.zeroValue9
 t46:=Tryz.underlying223
 a46:=Tryz.isAgg223
 z46:=Tryz.sizeOf223
 v46:=Tryz.zeroValue223
 t51:=Tryz.underlying279
 a51:=Tryz.isAgg279
 z51:=Tryz.sizeOf279
 v51:=Tryz.zeroValue279
 t53:=Tryz.underlying189
 a53:=Tryz.isAgg189
 z53:=Tryz.sizeOf189
 v53:=Tryz.zeroValue189}
def Tryz.bits_Len(x:Int)(w:World)(h0:0<=x)(h1:x<=18446744073709551615):
  an 158 #[.int .u64 x] w λe w'=>e=.returned (.int .i64 (Lib.bitLen x.toNat))/\w'=w:=Any.bits_Len Tryz.lays125 x w h0 h1
def Tryz.lays106_ren:Go.Shelf.Ren:=⟨λ|106=>272|213=>354|265=>428|n=>n,λ|9=>9|3=>3|n=>n,λ|n=>n⟩
def Tryz.lays106:Go.Proofs.Lays.n106 aL Tryz.lays106_ren:={
 mixed:=by kernel_rfl
 f106:=bf Tryz.func272
 f213:=bf Tryz.func354
 f265:=bf Tryz.func428
 t3:=Tryz.underlying3
 a3:=Tryz.isAgg3
 z3:=Tryz.sizeOf3
 v3:=Tryz.zeroValue3
 t9:=Tryz.underlying9
 a9:=Tryz.isAgg9
 z9:=Tryz.sizeOf9
 v9:=Tryz.zeroValue9}
open Go.RowKit in
def Tryz.strings_Compare(a b:ByteArray)(w:World):
  an 272 #[.string a,.string b] w λe w'=>e=.returned (.int .i64 (Lib.compareBytes a.data.toList b.data.toList))/\w'=w:=Any.strings_Compare Tryz.lays106 a b w
def Tryz.lays137_ren:Go.Shelf.Ren:=⟨λ|137=>192|217=>265|266=>342|n=>n,λ|9=>9|5=>5|3=>3|n=>n,λ|n=>n⟩
def Tryz.lays137:Go.Proofs.Lays.n137 aL Tryz.lays137_ren:={
 mixed:=by kernel_rfl
 f137:=bf Tryz.func192
 f217:=bf Tryz.func265
 f266:=bf Tryz.func342
 t3:=Tryz.underlying3
 a3:=Tryz.isAgg3
 z3:=Tryz.sizeOf3
 v3:=Tryz.zeroValue3
 t5:=Tryz.underlying5
 a5:=Tryz.isAgg5
 z5:=Tryz.sizeOf5
 v5:=Tryz.zeroValue5
 t9:=Tryz.underlying9
 a9:=Tryz.isAgg9
 z9:=Tryz.sizeOf9
 v9:=Tryz.zeroValue9}
open Go.RowKit in
def Tryz.strings_IndexByte(s:ByteArray)(c:Int)(w:World):
  an 192 #[.string s,.int .u8 c] w λe w'=>e=.returned (.int .i64 (Lib.indexByte s.data.toList c.toNat.toUInt8))/\w'=w:=Any.strings_IndexByte Tryz.lays137 s c w
def Tryz.lays103_ren:Go.Shelf.Ren:=⟨λ|103=>170|210=>233|206=>143|n=>n,λ|9=>9|4=>4|24=>179|3=>3|n=>n,λ|n=>n⟩
def Tryz.lays103:Go.Proofs.Lays.n103 aL Tryz.lays103_ren:={
 mixed:=by kernel_rfl
 f103:=bf Tryz.func170
 f206:=bf Tryz.func143
 f210:=bf Tryz.func233
 t3:=Tryz.underlying3
 a3:=Tryz.isAgg3
 z3:=Tryz.sizeOf3
 v3:=Tryz.zeroValue3
 t4:=Tryz.underlying4
 a4:=Tryz.isAgg4
 z4:=Tryz.sizeOf4
 v4:=Tryz.zeroValue4
 t9:=Tryz.underlying9
 a9:=Tryz.isAgg9
 z9:=Tryz.sizeOf9
 v9:=Tryz.zeroValue9
 t24:=Tryz.underlying179
 a24:=Tryz.isAgg179
 z24:=Tryz.sizeOf179
 v24:=Tryz.zeroValue179}
open Go.RowKit in
def Tryz.strings_CutPrefix(s p:ByteArray)(w:World):
  an 170 #[.string s,.string p] w λe w'=>e=.returned (.tuple #[.string ⟨(Lib.trimPrefix s.data.toList p.data.toList).toArray⟩,.bool (Lib.hasPrefix s.data.toList p.data.toList)])/\w'=w:=Any.strings_CutPrefix Tryz.lays103 s p w
def Tryz.aoP:Go.Shelf.Ren:=⟨λ|171=>88|243=>152|246=>210|283=>277|284=>278|285=>279|286=>280|129=>222|317=>356|318=>357|319=>358|320=>359|337=>429|338=>430|n=>n,λ|3=>3|9=>9|2=>2|4=>4|171=>330|0=>0|53=>189|37=>22|5=>5|173=>332|212=>391|51=>279|20=>20|213=>392|46=>223|232=>482|233=>438|n=>n,λ|17=>3|18=>6|19=>7|n=>n⟩
def Tryz.au_:Go.Proofs.LaysM.n171 aL Tryz.aoP:={
 mixed:=by kernel_rfl
 f129:=bf Tryz.func222
 f171:=bf Tryz.func88
 f243:=bf Tryz.func152
 f246:=bf Tryz.func210
 f283:=bf Tryz.func277
 f284:=bf Tryz.func278
 f285:=bf Tryz.func279
 f286:=bf Tryz.func280
 f317:=bf Tryz.func356
 f318:=bf Tryz.func357
 f319:=bf Tryz.func358
 f320:=bf Tryz.func359
 f337:=bf Tryz.func429
 f338:=bf Tryz.func430
 t0:=Tryz.underlying0
 a0:=Tryz.isAgg0
 z0:=Tryz.sizeOf0
 v0:=Tryz.zeroValue0
 t2:=Tryz.underlying2
 a2:=Tryz.isAgg2
 z2:=Tryz.sizeOf2
 v2:=Tryz.zeroValue2
 t3:=Tryz.underlying3
 a3:=Tryz.isAgg3
 z3:=Tryz.sizeOf3
 v3:=Tryz.zeroValue3
 t4:=Tryz.underlying4
 a4:=Tryz.isAgg4
 z4:=Tryz.sizeOf4
 v4:=Tryz.zeroValue4
 t5:=Tryz.underlying5
 a5:=Tryz.isAgg5
 z5:=Tryz.sizeOf5
 v5:=Tryz.zeroValue5
 t9:=Tryz.underlying9
 a9:=Tryz.isAgg9
 z9:=Tryz.sizeOf9
 v9:=Tryz.zeroValue9
 t20:=Tryz.underlying20
 a20:=Tryz.isAgg20
 z20:=Tryz.sizeOf20
 v20:=Tryz.zeroValue20
 t37:=Tryz.underlying22
 a37:=Tryz.isAgg22
 z37:=Tryz.sizeOf22
 v37:=Tryz.zeroValue22
 t46:=Tryz.underlying223
 a46:=Tryz.isAgg223
 z46:=Tryz.sizeOf223
 v46:=Tryz.zeroValue223
 t51:=Tryz.underlying279
 a51:=Tryz.isAgg279
 z51:=Tryz.sizeOf279
 v51:=Tryz.zeroValue279
 t53:=Tryz.underlying189
 a53:=Tryz.isAgg189
 z53:=Tryz.sizeOf189
 v53:=Tryz.zeroValue189
 t171:=Tryz.underlying330
 a171:=Tryz.isAgg330
 z171:=Tryz.sizeOf330
 v171:=Tryz.zeroValue330
 t173:=Tryz.underlying332
 a173:=Tryz.isAgg332
 z173:=Tryz.sizeOf332
 v173:=Tryz.zeroValue332
 t212:=Tryz.underlying391
 a212:=Tryz.isAgg391
 z212:=Tryz.sizeOf391
 v212:=Tryz.zeroValue391
 t213:=Tryz.underlying392
 a213:=Tryz.isAgg392
 z213:=Tryz.sizeOf392
 t232:=Tryz.underlying482
 a232:=Tryz.isAgg482
 z232:=Tryz.sizeOf482
 v232:=Tryz.zeroValue482
 t233:=Tryz.underlying438
 a233:=Tryz.isAgg438
 z233:=Tryz.sizeOf438
 v233:=Tryz.zeroValue438
 g17:=by kernel_rfl
 g18:=by kernel_rfl
 g19:=by kernel_rfl
 i0:=by kernel_rfl
 i2:=by kernel_rfl
 i3:=by kernel_rfl
 i4:=by kernel_rfl
 i5:=by kernel_rfl
 i9:=by kernel_rfl
 i20:=by kernel_rfl
 i37:=by kernel_rfl
 i46:=by kernel_rfl
 i51:=by kernel_rfl
 i53:=by kernel_rfl
 i171:=by kernel_rfl
 i173:=by kernel_rfl
 i212:=by kernel_rfl
 i232:=by kernel_rfl
 i233:=by kernel_rfl
 m17:=by kernel_rfl
 m18:=by kernel_rfl
 m19:=by kernel_rfl}
open Go.RowKit Go.Sort Go.Lib in
def Tryz.strconv_Itoa(n:Int)(h0: -9223372036854775808<=n)(h1:n<=9223372036854775807)(w:World)(htab:Lib.TabIs aL w "internal/strconv.uint64pow10" .u64 Lib.pow10Tab):
  an 88 #[.int .i64 n] w λe w'=>e=.returned (.string ⟨(Lib.itoa n).toArray⟩)/\∃k os,w'=grow (w.drewN k) os:=Any.strconv_Itoa Tryz.au_ n h0 h1 w htab
def Tryz.lays143_ren:Go.Shelf.Ren:=⟨λ|143=>155|219=>211|217=>265|225=>281|224=>282|267=>283|266=>342|314=>360|n=>n,λ|9=>9|3=>3|4=>4|5=>5|46=>223|146=>394|51=>279|n=>n,λ|1=>0|n=>n⟩
def Tryz.lays143:Go.Proofs.Lays.n143 aL Tryz.lays143_ren:={
 mixed:=by kernel_rfl
 f143:=bf Tryz.func155
 f217:=bf Tryz.func265
 f219:=bf Tryz.func211
 f224:=bf Tryz.func282
 f225:=bf Tryz.func281
 f266:=bf Tryz.func342
 f267:=bf Tryz.func283
 f314:=bf Tryz.func360
 t3:=Tryz.underlying3
 a3:=Tryz.isAgg3
 z3:=Tryz.sizeOf3
 v3:=Tryz.zeroValue3
 t4:=Tryz.underlying4
 a4:=Tryz.isAgg4
 z4:=Tryz.sizeOf4
 v4:=Tryz.zeroValue4
 t5:=Tryz.underlying5
 a5:=Tryz.isAgg5
 z5:=Tryz.sizeOf5
 v5:=Tryz.zeroValue5
 t9:=Tryz.underlying9
 a9:=Tryz.isAgg9
 z9:=Tryz.sizeOf9
 v9:=Tryz.zeroValue9
 t46:=Tryz.underlying223
 a46:=Tryz.isAgg223
 z46:=Tryz.sizeOf223
 v46:=Tryz.zeroValue223
 t51:=Tryz.underlying279
 a51:=Tryz.isAgg279
 z51:=Tryz.sizeOf279
 v51:=Tryz.zeroValue279
 t146:=Tryz.underlying394
 a146:=Tryz.isAgg394
 z146:=Tryz.sizeOf394
 v146:=Tryz.zeroValue394
 g1:=by kernel_rfl}
open Go.RowKit Go.Lib in
def Tryz.strings_Index_one(s:ByteArray)(c:UInt8)(w:World):
  an 155 #[.string s,.string ⟨#[c]⟩] w λe w'=>e=.returned (.int .i64 (Lib.indexByte s.data.toList c))/\w'=w:=Any.strings_Index_one Tryz.lays143 s c w
def Tryz.lays144_ren:Go.Shelf.Ren:=⟨λ|144=>104|143=>155|219=>211|217=>265|225=>281|224=>282|267=>283|266=>342|314=>360|n=>n,λ|9=>9|4=>4|3=>3|5=>5|46=>223|146=>394|51=>279|n=>n,λ|1=>0|n=>n⟩
def Tryz.lays144:Go.Proofs.Lays.n144 aL Tryz.lays144_ren:={
 mixed:=by kernel_rfl
 f143:=bf Tryz.func155
 f144:=bf Tryz.func104
 f217:=bf Tryz.func265
 f219:=bf Tryz.func211
 f224:=bf Tryz.func282
 f225:=bf Tryz.func281
 f266:=bf Tryz.func342
 f267:=bf Tryz.func283
 f314:=bf Tryz.func360
 t3:=Tryz.underlying3
 a3:=Tryz.isAgg3
 z3:=Tryz.sizeOf3
 v3:=Tryz.zeroValue3
 t4:=Tryz.underlying4
 a4:=Tryz.isAgg4
 z4:=Tryz.sizeOf4
 v4:=Tryz.zeroValue4
 t5:=Tryz.underlying5
 a5:=Tryz.isAgg5
 z5:=Tryz.sizeOf5
 v5:=Tryz.zeroValue5
 t9:=Tryz.underlying9
 a9:=Tryz.isAgg9
 z9:=Tryz.sizeOf9
 v9:=Tryz.zeroValue9
 t46:=Tryz.underlying223
 a46:=Tryz.isAgg223
 z46:=Tryz.sizeOf223
 v46:=Tryz.zeroValue223
 t51:=Tryz.underlying279
 a51:=Tryz.isAgg279
 z51:=Tryz.sizeOf279
 v51:=Tryz.zeroValue279
 t146:=Tryz.underlying394
 a146:=Tryz.isAgg394
 z146:=Tryz.sizeOf394
 v146:=Tryz.zeroValue394
 g1:=by kernel_rfl}
open Go.RowKit Go.Lib in
def Tryz.strings_Contains_one(s:ByteArray)(c:UInt8)(w:World):
  an 104 #[.string s,.string ⟨#[c]⟩] w λe w'=>e=.returned (.bool (decide (0<=Lib.indexByte s.data.toList c)))/\w'=w:=Any.strings_Contains_one Tryz.lays144 s c w
def Tryz.lays138_ren:Go.Shelf.Ren:=⟨λ|138=>89|195=>153|218=>154|143=>155|219=>211|217=>265|225=>281|224=>282|267=>283|266=>342|314=>360|n=>n,λ|9=>9|3=>3|4=>4|5=>5|0=>0|46=>223|146=>394|51=>279|n=>n,λ|1=>0|n=>n⟩
def Tryz.lays138:Go.Proofs.Lays.n138 aL Tryz.lays138_ren:={
 mixed:=by kernel_rfl
 f138:=bf Tryz.func89
 f143:=bf Tryz.func155
 f195:=bf Tryz.func153
 f217:=bf Tryz.func265
 f218:=bf Tryz.func154
 f219:=bf Tryz.func211
 f224:=bf Tryz.func282
 f225:=bf Tryz.func281
 f266:=bf Tryz.func342
 f267:=bf Tryz.func283
 f314:=bf Tryz.func360
 t0:=Tryz.underlying0
 a0:=Tryz.isAgg0
 z0:=Tryz.sizeOf0
 v0:=Tryz.zeroValue0
 t3:=Tryz.underlying3
 a3:=Tryz.isAgg3
 z3:=Tryz.sizeOf3
 v3:=Tryz.zeroValue3
 t4:=Tryz.underlying4
 a4:=Tryz.isAgg4
 z4:=Tryz.sizeOf4
 v4:=Tryz.zeroValue4
 t5:=Tryz.underlying5
 a5:=Tryz.isAgg5
 z5:=Tryz.sizeOf5
 v5:=Tryz.zeroValue5
 t9:=Tryz.underlying9
 a9:=Tryz.isAgg9
 z9:=Tryz.sizeOf9
 v9:=Tryz.zeroValue9
 t46:=Tryz.underlying223
 a46:=Tryz.isAgg223
 z46:=Tryz.sizeOf223
 v46:=Tryz.zeroValue223
 t51:=Tryz.underlying279
 a51:=Tryz.isAgg279
 z51:=Tryz.sizeOf279
 v51:=Tryz.zeroValue279
 t146:=Tryz.underlying394
 a146:=Tryz.isAgg394
 z146:=Tryz.sizeOf394
 v146:=Tryz.zeroValue394
 g1:=by kernel_rfl}
open Go.RowKit Go.Lib in
def Tryz.strings_Count_one(s:ByteArray)(c:UInt8)(w:World):
  an 89 #[.string s,.string ⟨#[c]⟩] w λe w'=>e=.returned (.int .i64 (Lib.countByte s.data.toList c))/\w'=w:=Any.strings_Count_one Tryz.lays138 s c w
def Tryz.lays190_ren:Go.Shelf.Ren:=⟨λ|190=>94|125=>158|258=>157|128=>221|129=>222|302=>212|303=>213|304=>214|305=>215|306=>216|307=>217|308=>218|309=>219|310=>220|333=>284|329=>285|330=>286|334=>287|335=>288|336=>289|344=>361|n=>n,λ|31=>25|9=>9|3=>3|46=>223|0=>0|51=>279|53=>189|4=>4|183=>273|182=>272|131=>155|5=>5|218=>334|222=>338|228=>396|229=>397|n=>n,λ|n=>n⟩
def Tryz.lays190:Go.Proofs.Lays.n190 aL Tryz.lays190_ren:={
 mixed:=by kernel_rfl
 f125:=bf Tryz.func158
 f128:=bf Tryz.func221
 f129:=bf Tryz.func222
 f190:=bf Tryz.func94
 f258:=bf Tryz.func157
 f302:=bf Tryz.func212
 f303:=bf Tryz.func213
 f304:=bf Tryz.func214
 f305:=bf Tryz.func215
 f306:=bf Tryz.func216
 f307:=bf Tryz.func217
 f308:=bf Tryz.func218
 f309:=bf Tryz.func219
 f310:=bf Tryz.func220
 f329:=bf Tryz.func285
 f330:=bf Tryz.func286
 f333:=bf Tryz.func284
 f334:=bf Tryz.func287
 f335:=bf Tryz.func288
 f336:=bf Tryz.func289
 f344:=bf Tryz.func361
 t0:=Tryz.underlying0
 a0:=Tryz.isAgg0
 z0:=Tryz.sizeOf0
 v0:=Tryz.zeroValue0
 t3:=Tryz.underlying3
 a3:=Tryz.isAgg3
 z3:=Tryz.sizeOf3
 v3:=Tryz.zeroValue3
 t4:=Tryz.underlying4
 a4:=Tryz.isAgg4
 z4:=Tryz.sizeOf4
 v4:=Tryz.zeroValue4
 t5:=Tryz.underlying5
 a5:=Tryz.isAgg5
 z5:=Tryz.sizeOf5
 v5:=Tryz.zeroValue5
 t9:=Tryz.underlying9
 a9:=Tryz.isAgg9
 z9:=Tryz.sizeOf9
 v9:=Tryz.zeroValue9
 t31:=Tryz.underlying25
 a31:=Tryz.isAgg25
 z31:=Tryz.sizeOf25
 v31:=Tryz.zeroValue25
 t46:=Tryz.underlying223
 a46:=Tryz.isAgg223
 z46:=Tryz.sizeOf223
 v46:=Tryz.zeroValue223
 t51:=Tryz.underlying279
 a51:=Tryz.isAgg279
 z51:=Tryz.sizeOf279
 v51:=Tryz.zeroValue279
 t53:=Tryz.underlying189
 a53:=Tryz.isAgg189
 z53:=Tryz.sizeOf189
 v53:=Tryz.zeroValue189
 t131:=Tryz.underlying155
 a131:=Tryz.isAgg155
 z131:=Tryz.sizeOf155
 v131:=Tryz.zeroValue155
 t182:=Tryz.underlying272
 a182:=Tryz.isAgg272
 z182:=Tryz.sizeOf272
 v182:=Tryz.zeroValue272
 t183:=Tryz.underlying273
 a183:=Tryz.isAgg273
 z183:=Tryz.sizeOf273
 v183:=Tryz.zeroValue273
 t218:=Tryz.underlying334
 a218:=Tryz.isAgg334
 z218:=Tryz.sizeOf334
 v218:=Tryz.zeroValue334
 t222:=Tryz.underlying338
 a222:=Tryz.isAgg338
 z222:=Tryz.sizeOf338
 v222:=Tryz.zeroValue338
 t228:=Tryz.underlying396
 a228:=Tryz.isAgg396
 z228:=Tryz.sizeOf396
 v228:=Tryz.zeroValue396
 t229:=Tryz.underlying397
 a229:=Tryz.isAgg397
 z229:=Tryz.sizeOf397
 v229:=Tryz.zeroValue397}
open Go.Sort Go.RowKit in
def Tryz.slices_Sort_string(blk off cap:Nat)(ss:List (List UInt8))(w:World)(hH:Holds encStr w blk off ss.toArray)(hblk:blk<w.heap.size)(hsz:ss.length<4611686018427387904):
  an 94 #[.slice (some ⟨blk,off,none⟩) ss.length cap] w λe w'=>
   e=.returned (.tuple #[])/\∃n os,w'=grow (putRow encStr (Sort.ahead w n) blk off (ss.mergeSort λx y=>decide (x<=y)).toArray) os:=Any.slices_Sort_string Tryz.lays190 blk off cap ss w hH hblk hsz
def Tryz.lays149_ren:Go.Shelf.Ren:=⟨λ|149=>107|222=>162|n=>n,λ|9=>9|5=>5|3=>3|4=>4|n=>n,λ|n=>n⟩
def Tryz.lays149:Go.Proofs.Lays.n149 aL Tryz.lays149_ren:={
 mixed:=by kernel_rfl
 f149:=bf Tryz.func107
 f222:=bf Tryz.func162
 t3:=Tryz.underlying3
 a3:=Tryz.isAgg3
 z3:=Tryz.sizeOf3
 v3:=Tryz.zeroValue3
 t4:=Tryz.underlying4
 a4:=Tryz.isAgg4
 z4:=Tryz.sizeOf4
 v4:=Tryz.zeroValue4
 t5:=Tryz.underlying5
 a5:=Tryz.isAgg5
 z5:=Tryz.sizeOf5
 v5:=Tryz.zeroValue5
 t9:=Tryz.underlying9
 a9:=Tryz.isAgg9
 z9:=Tryz.sizeOf9
 v9:=Tryz.zeroValue9}
open Go.RowKit Go.Lib in
def Tryz.strings_LastIndexByte(s:ByteArray)(c:Int)(hs:s.size<4611686018427387904)(w:World):
  an 107 #[.string s,.int .u8 c] w λe w'=>e=.returned (.int .i64 (Lib.lastIndexByte s c))/\w'=w:=Any.strings_LastIndexByte Tryz.lays149 s c hs w
def Tryz.lays206_ren:Go.Shelf.Ren:=⟨λ|206=>143|n=>n,λ|9=>9|4=>4|3=>3|n=>n,λ|n=>n⟩
def Tryz.lays206:Go.Proofs.Lays.n206 aL Tryz.lays206_ren:={
 mixed:=by kernel_rfl
 f206:=bf Tryz.func143
 t3:=Tryz.underlying3
 a3:=Tryz.isAgg3
 z3:=Tryz.sizeOf3
 v3:=Tryz.zeroValue3
 t4:=Tryz.underlying4
 a4:=Tryz.isAgg4
 z4:=Tryz.sizeOf4
 v4:=Tryz.zeroValue4
 t9:=Tryz.underlying9
 a9:=Tryz.isAgg9
 z9:=Tryz.sizeOf9
 v9:=Tryz.zeroValue9}
open Go.RowKit Go.Lib in
def Tryz.stringslite_HasPrefix(s p:ByteArray)(w:World):
  an 143 #[.string s,.string p] w λe w'=>e=.returned (.bool (Lib.hasPrefix s.data.toList p.data.toList))/\w'=w:=Any.stringslite_HasPrefix Tryz.lays206 s p w
def Tryz.lays99_ren:Go.Shelf.Ren:=⟨λ|99=>73|206=>143|n=>n,λ|9=>9|4=>4|3=>3|n=>n,λ|n=>n⟩
def Tryz.lays99:Go.Proofs.Lays.n99 aL Tryz.lays99_ren:={
 mixed:=by kernel_rfl
 f99:=bf Tryz.func73
 f206:=bf Tryz.func143
 t3:=Tryz.underlying3
 a3:=Tryz.isAgg3
 z3:=Tryz.sizeOf3
 v3:=Tryz.zeroValue3
 t4:=Tryz.underlying4
 a4:=Tryz.isAgg4
 z4:=Tryz.sizeOf4
 v4:=Tryz.zeroValue4
 t9:=Tryz.underlying9
 a9:=Tryz.isAgg9
 z9:=Tryz.sizeOf9
 v9:=Tryz.zeroValue9}
open Go.RowKit Go.Lib in
def Tryz.strings_HasPrefix(s p:ByteArray)(w:World):
  an 73 #[.string s,.string p] w λe w'=>e=.returned (.bool (Lib.hasPrefix s.data.toList p.data.toList))/\w'=w:=Any.strings_HasPrefix Tryz.lays99 s p w
def Tryz.lays100_ren:Go.Shelf.Ren:=⟨λ|100=>250|207=>202|n=>n,λ|9=>9|4=>4|3=>3|n=>n,λ|n=>n⟩
def Tryz.lays100:Go.Proofs.Lays.n100 aL Tryz.lays100_ren:={
 mixed:=by kernel_rfl
 f100:=bf Tryz.func250
 f207:=bf Tryz.func202
 t3:=Tryz.underlying3
 a3:=Tryz.isAgg3
 z3:=Tryz.sizeOf3
 v3:=Tryz.zeroValue3
 t4:=Tryz.underlying4
 a4:=Tryz.isAgg4
 z4:=Tryz.sizeOf4
 v4:=Tryz.zeroValue4
 t9:=Tryz.underlying9
 a9:=Tryz.isAgg9
 z9:=Tryz.sizeOf9
 v9:=Tryz.zeroValue9}
open Go.RowKit Go.Lib in
def Tryz.strings_HasSuffix(s p:ByteArray)(w:World)(hs:s.size<=9223372036854775807):
  an 250 #[.string s,.string p] w λe w'=>e=.returned (.bool (Lib.hasSuffix s.data.toList p.data.toList))/\w'=w:=Any.strings_HasSuffix Tryz.lays100 s p w hs
def Tryz.lays102_ren:Go.Shelf.Ren:=⟨λ|102=>75|209=>146|207=>202|n=>n,λ|9=>9|4=>4|3=>3|n=>n,λ|n=>n⟩
def Tryz.lays102:Go.Proofs.Lays.n102 aL Tryz.lays102_ren:={
 mixed:=by kernel_rfl
 f102:=bf Tryz.func75
 f207:=bf Tryz.func202
 f209:=bf Tryz.func146
 t3:=Tryz.underlying3
 a3:=Tryz.isAgg3
 z3:=Tryz.sizeOf3
 v3:=Tryz.zeroValue3
 t4:=Tryz.underlying4
 a4:=Tryz.isAgg4
 z4:=Tryz.sizeOf4
 v4:=Tryz.zeroValue4
 t9:=Tryz.underlying9
 a9:=Tryz.isAgg9
 z9:=Tryz.sizeOf9
 v9:=Tryz.zeroValue9}
open Go.RowKit Go.Lib in
def Tryz.strings_TrimSuffix(s p:ByteArray)(w:World)(hs:s.size<=9223372036854775807):
  an 75 #[.string s,.string p] w λe w'=>e=.returned (.string ⟨(Lib.trimSuffix s.data.toList p.data.toList).toArray⟩)/\w'=w:=Any.strings_TrimSuffix Tryz.lays102 s p w hs
def Tryz.lays146_ren:Go.Shelf.Ren:=⟨λ|146=>100|221=>160|268=>225|138=>89|143=>155|195=>153|197=>164|218=>154|219=>211|260=>229|217=>265|225=>281|224=>282|267=>283|266=>342|314=>360|n=>n,λ|9=>9|31=>25|3=>3|4=>4|0=>0|105=>232|21=>21|5=>5|46=>223|119=>344|139=>347|138=>346|146=>394|51=>279|n=>n,λ|1=>0|3=>1|4=>2|n=>n⟩
def Tryz.lays146:Go.Proofs.Lays.n146 aL Tryz.lays146_ren:={
 mixed:=by kernel_rfl
 f138:=bf Tryz.func89
 f143:=bf Tryz.func155
 f146:=bf Tryz.func100
 f195:=bf Tryz.func153
 f197:=bf Tryz.func164
 f217:=bf Tryz.func265
 f218:=bf Tryz.func154
 f219:=bf Tryz.func211
 f221:=bf Tryz.func160
 f224:=bf Tryz.func282
 f225:=bf Tryz.func281
 f260:=bf Tryz.func229
 f266:=bf Tryz.func342
 f267:=bf Tryz.func283
 f268:=bf Tryz.func225
 f314:=bf Tryz.func360
 t0:=Tryz.underlying0
 a0:=Tryz.isAgg0
 z0:=Tryz.sizeOf0
 v0:=Tryz.zeroValue0
 t3:=Tryz.underlying3
 a3:=Tryz.isAgg3
 z3:=Tryz.sizeOf3
 v3:=Tryz.zeroValue3
 t4:=Tryz.underlying4
 a4:=Tryz.isAgg4
 z4:=Tryz.sizeOf4
 v4:=Tryz.zeroValue4
 t5:=Tryz.underlying5
 a5:=Tryz.isAgg5
 z5:=Tryz.sizeOf5
 v5:=Tryz.zeroValue5
 t9:=Tryz.underlying9
 a9:=Tryz.isAgg9
 z9:=Tryz.sizeOf9
 v9:=Tryz.zeroValue9
 t21:=Tryz.underlying21
 a21:=Tryz.isAgg21
 z21:=Tryz.sizeOf21
 v21:=Tryz.zeroValue21
 t31:=Tryz.underlying25
 a31:=Tryz.isAgg25
 z31:=Tryz.sizeOf25
 v31:=Tryz.zeroValue25
 t46:=Tryz.underlying223
 a46:=Tryz.isAgg223
 z46:=Tryz.sizeOf223
 v46:=Tryz.zeroValue223
 t51:=Tryz.underlying279
 a51:=Tryz.isAgg279
 z51:=Tryz.sizeOf279
 v51:=Tryz.zeroValue279
 t105:=Tryz.underlying232
 a105:=Tryz.isAgg232
 z105:=Tryz.sizeOf232
 v105:=Tryz.zeroValue232
 t119:=Tryz.underlying344
 a119:=Tryz.isAgg344
 z119:=Tryz.sizeOf344
 t138:=Tryz.underlying346
 a138:=Tryz.isAgg346
 z138:=Tryz.sizeOf346
 v138:=Tryz.zeroValue346
 t139:=Tryz.underlying347
 a139:=Tryz.isAgg347
 z139:=Tryz.sizeOf347
 v139:=Tryz.zeroValue347
 t146:=Tryz.underlying394
 a146:=Tryz.isAgg394
 z146:=Tryz.sizeOf394
 v146:=Tryz.zeroValue394
 g1:=by kernel_rfl
 g3:=by kernel_rfl
 g4:=by kernel_rfl}
open Go.RowKit Go.Lib in
def Tryz.strings_Split(s sep:ByteArray)(m:Int)(w:World)(hs:s.size<4294967281)(hm:w.cell? ⟨0,0,none⟩=some (.int .i64 m))(h1:1<=sep.size):
  an 100 #[.string s,.string sep] w λe w'=>
   e=.returned (.slice (some ⟨w.heap.size,0,none⟩) (Lib.countB s sep+1) (Lib.countB s sep+1))/\w'=w.alloc (.cells ((Lib.splitB sep 0 (Lib.countB s sep) s).map Value.string).toArray 9):=Any.strings_Split Tryz.lays146 (by kernel_rfl) s sep m w hs hm h1
def Tryz.lays110_ren:Go.Shelf.Ren:=⟨λ|110=>95|109=>91|n=>n,λ|31=>25|9=>9|4=>4|3=>3|0=>0|n=>n,λ|n=>n⟩
def Tryz.lays110:Go.Proofs.Lays.n110 aL Tryz.lays110_ren:={
 mixed:=by kernel_rfl
 f109:=bf Tryz.func91
 f110:=bf Tryz.func95
 t0:=Tryz.underlying0
 a0:=Tryz.isAgg0
 z0:=Tryz.sizeOf0
 v0:=Tryz.zeroValue0
 t3:=Tryz.underlying3
 a3:=Tryz.isAgg3
 z3:=Tryz.sizeOf3
 v3:=Tryz.zeroValue3
 t4:=Tryz.underlying4
 a4:=Tryz.isAgg4
 z4:=Tryz.sizeOf4
 v4:=Tryz.zeroValue4
 t9:=Tryz.underlying9
 a9:=Tryz.isAgg9
 z9:=Tryz.sizeOf9
 v9:=Tryz.zeroValue9
 t31:=Tryz.underlying25
 a31:=Tryz.isAgg25
 z31:=Tryz.sizeOf25
 v31:=Tryz.zeroValue25}
open Go.Lib in
def Tryz.slices_Contains_string(b off n c:Nat)(zs:List ByteArray)(x:ByteArray)(w:World)(hz:n<=zs.length)(hbig:n<=9223372036854775807)(hc:∀j,j<zs.length->w.cell? ⟨b,off+j,none⟩=some (.string (zs.getD j ByteArray.empty))):
  an 95 #[.slice (some ⟨b,off,none⟩) n c,.string x] w λe w'=>e=.returned (.bool (Lib.containsS (zs.take n) x))/\w'=w:=Any.slices_Contains_string Tryz.lays110 b off n c zs x w hz hbig hc
open Go.Lib in
def Tryz.slices_Contains_string_empty(a:Option Addr)(c:Nat)(x:ByteArray)(w:World):
  an 95 #[.slice a 0 c,.string x] w λe w'=>e=.returned (.bool false)/\w'=w:=Any.slices_Contains_string_empty Tryz.lays110 a c x w
def Tryz.aog:Go.Shelf.Ren:=⟨λ|17=>97|n=>n,λ|24=>25|9=>9|3=>3|4=>4|0=>0|n=>n,λ|n=>n⟩
def Tryz.abR:Go.Proofs.Lays2.n17 aL Tryz.aog:={
 mixed:=by kernel_rfl
 f17:=bf Tryz.func97
 t0:=Tryz.underlying0
 a0:=Tryz.isAgg0
 z0:=Tryz.sizeOf0
 v0:=Tryz.zeroValue0
 t3:=Tryz.underlying3
 a3:=Tryz.isAgg3
 z3:=Tryz.sizeOf3
 v3:=Tryz.zeroValue3
 t4:=Tryz.underlying4
 a4:=Tryz.isAgg4
 z4:=Tryz.sizeOf4
 v4:=Tryz.zeroValue4
 t9:=Tryz.underlying9
 a9:=Tryz.isAgg9
 z9:=Tryz.sizeOf9
 v9:=Tryz.zeroValue9
 t24:=Tryz.underlying25
 a24:=Tryz.isAgg25
 z24:=Tryz.sizeOf25
 v24:=Tryz.zeroValue25}
open Go.RowKit Go.Lib Go.Sort in
def Tryz.slices_Reverse_string(blk off cap:Nat)(zs:List (List UInt8))(w:World)(hH:Holds encStr w blk off zs.toArray)(hsz:zs.length<=9223372036854775807):
  an 97 #[.slice (some ⟨blk,off,none⟩) zs.length cap] w λe w'=>e=.returned (.tuple #[])/\∃n,w'=putRow encStr (Sort.ahead w n) blk off zs.reverse.toArray:=Any.slices_Reverse_string Tryz.abR blk off cap zs w hH hsz
open Go.RowKit Go.Lib Go.Sort in
def Tryz.slices_Reverse_string_empty(a:Option Addr)(cap:Nat)(w:World):
  an 97 #[.slice a 0 cap] w λe w'=>e=.returned (.tuple #[])/\w'=w:=Any.slices_Reverse_string_empty Tryz.abR a cap w
open Go.RowKit Go.Sort in
def Tryz.slices_Sort_string_none(p:Option Addr)(cap:Nat)(w:World):
  an 94 #[.slice p 0 cap] w λe w'=>e=.returned (.tuple #[])/\w'=w:=Any.slices_Sort_string_none Tryz.lays190 p cap w
end Go.Proofs
namespace Go.Proofs.YtihaaoehhgmphaaGreatDoor
open IntKind Go.RowKit Vc
variable{w:World}
structure Env(w:World):Prop where
 tab:Lib.TabIs aL w "internal/strconv.uint64pow10" .u64 Lib.pow10Tab
 es:∃v:Value,v.oneCell'=true/\w.cell? ⟨4,0,none⟩=some v
 er:∃v:Value,v.oneCell'=true/\w.cell? ⟨5,0,none⟩=some v
def aya{P:Program}{name:String}{g:Nat}{cs:Array Value}(hg:P.globalNamed name=some g)(h:w.var? P name=some cs):g<w.heap.size:=by
 unfold World.var? at h;rw[hg]at h;simp only[Yn]at h;cases hh:w.heap[g]? with
 |none=>rw[hh]at h;cases h
 |some o=>exact(aIf.1 hh).1
def asJ{P:Program}{name:String}{g:Nat}{k:IntKind}{zs:List Int}{w':World}(hg:P.globalNamed name=some g)(h:Lib.TabIs P w name k zs)(hm:Still w w'):Lib.TabIs P w' name k zs:=by have hlt:=aya hg h;unfold Lib.TabIs World.var? at h⊢;rw[hg]at h⊢;simp only[Yn]at h⊢;rw[hm.block g hlt (λh=>h)];exact h
def Env.still{w':World}(h:Env w)(hm:Still w w'):Env w':=by obtain⟨h1,⟨v2,o2,c2⟩,⟨v3,o3,c3⟩⟩:=h;exact⟨asJ (g:=3) (by kernel_rfl) h1 hm,⟨v2,o2,hm.cell c2⟩,⟨v3,o3,hm.cell c3⟩⟩
def aqZ(w:World)(k:Nat)(os:Array Obj):Still w (Go.Sort.grow (w.drewN k) os):=
 ⟨rfl,rfl,rfl,by simp[Go.Sort.grow,World.drewN],λi hi _=>by simp[Go.Sort.grow,World.drewN,Array.getElem?_append_left hi]⟩
def Sm(h:Env w)(n:Int)(h0: -9223372036854775808<=n)(h1:n<9223372036854775808):an Bt #[.int .i64 n] w (λe w'=>e=.returned (.string (S (Lib.itoa n)))/\Still w w'):=by refine(Tryz.strconv_Itoa n h0 (by omega) w h.tab).mono ?_;rintro _ w' ⟨rfl,k,os,rfl⟩;exact⟨rfl,aqZ w k os⟩
def aq0(w:World)(g n:Nat):Mod (λk=>k=g) w (w.freeze ⟨g,0,none⟩ n):=by
 unfold World.freeze;split
 .exact Mod.refl _ _
 .exact⟨rfl,rfl,rfl,by simp,λk hk hn=>by simp only[Fw];rw[aH (λe=>hn e.symm)]⟩
def aaM(s:ag)(hs:s.length<=140737488355328):an Jr #[.string (S s)] w (λe w'=>e=.returned (.string (S s))/\Still w w'):=by
 apply ajp;refine ax (λh=>?_) (λh=>?_)
 .have h:s.length=0:=by have:=aQ h;omega
  obtain rfl:=mC h;exact⟨rfl,Still.refl _⟩
 have h:s.length≠0:=by have:=aZ h;omega
 have h0:s≠[]:=λe=>h (by rw[e];rfl);refine⟨by omega,by omega,by omega,by omega,mg ?_⟩;have UX:(madeCells #[(.int .u8 (0:Int))] (Int.toNat (s.length:Int)*1)).size=s.length:=by rw[size_madeCells];simp
 have uY:Still w (w.alloc (.cells (madeCells #[(.int .u8 (0:Int))] (Int.toNat (s.length:Int)*1)) 5)):=(Mod.refl _ _).alloc _;have aIB:Row (w.alloc (.cells (madeCells #[(.int .u8 (0:Int))] (Int.toNat (s.length:Int)*1)) 5)) w.heap.size 5 (madeCells #[(.int .u8 (0:Int))] (Int.toNat (s.length:Int)*1)):=Row.new _ _ _;generalize w.alloc (.cells (madeCells #[(.int .u8 (0:Int))] (Int.toNat (s.length:Int)*1)) 5)=w1 at*;generalize madeCells #[(.int .u8 (0:Int))] (Int.toNat (s.length:Int)*1)=UY at*;have ebc:(s.take (min (Int.toNat (s.length:Int)) s.length)).map (λb=>Value.int .u8 b.toNat)=bc s:=by rw[bW,Nat.min_self,aH0];rfl
 refine⟨bc s,TR s,ebc.symm,.inr ⟨w.heap.size,0,UY.toList,5,rfl,aIB,by rw[Gq];simp[UX],mg ?_⟩⟩;have hcs:UY.toList.take 0++(bc s++UY.toList.drop (0+(bc s).length))=bc s:=by rw[Gq,XK (by simp[UX])];simp
 rw[hcs];have cy:=aIB.setRow ⟨bc s⟩ (by simp[UX]);have ri:Still w (w1.setRow w.heap.size ⟨bc s⟩):=uY.setRow (.inr (aR _)) _;generalize w1.setRow w.heap.size ⟨bc s⟩=w2 at*;refine⟨by decide,by omega,s,rfl,by omega,.inr ⟨h0,w.heap.size,s.length,rfl,by obtain⟨fz,hh,_⟩:=cy;show World.shape? _ _=_;simp[World.shape?,hh],aR _,λj x hx=>?_,rfl,ri.box (aR _) (aq0 _ _ _)⟩⟩;exact(by rw[bM,cL]:(Addr.mk w.heap.size 0 none).add j=Addr.mk w.heap.size j none)▸cy.ai (G5 hx)
def ank(he:Env w)(f s:ag)(hs:s.length<=140737488355328):an PC #[.string (S f),.string (S s)] w (λe w'=>(∃p,e=.returned (.pointer p))/\Still w w'):=by apply akg;obtain⟨v,h1,h2⟩:=he.es;refine⟨λwq=>Still w wq,(Still.refl _).cG,v,h1,λwq hq=>hq.cell h2,(aaM s hs).mono ?_⟩;rintro _ w1 ⟨rfl,hs1⟩;have hst:=(Still.refl w).cG.trans hs1;exact .inl ⟨_,rfl,hst,by refine US h1 (mg ⟨⟨_,rfl⟩,hst.alloc _⟩)⟩
def anB(he:Env w)(f s:ag)(hs:s.length<=140737488355328):an aKR #[.string (S f),.string (S s)] w (λe w'=>(∃p,e=.returned (.pointer p))/\Still w w'):=by apply akH;obtain⟨v,h1,h2⟩:=he.er;refine⟨λwq=>Still w wq,(Still.refl _).cG,v,h1,λwq hq=>hq.cell h2,(aaM s hs).mono ?_⟩;rintro _ w1 ⟨rfl,hs1⟩;have hst:=(Still.refl w).cG.trans hs1;exact .inl ⟨_,rfl,hst,by refine US h1 (mg ⟨⟨_,rfl⟩,hst.alloc _⟩)⟩
abbrev AH(k:Nat):Value:=.iface 340 (.int .i64 (k:Int))
def aoQ(he:Env w)(f s:ag)(b z:Int)(hs:s.length<=140737488355328){k:Nat}(hk:k=1\/k=2):
  an Qx #[.string (S f),.string (S s),.int .i64 b,.int .i64 z,AH k] w (λe w'=>(∃t v,e=.returned (.iface t v))/\Still w w'):=by
 apply alz;refine⟨rfl,rfl,?_⟩;rcases hk with rfl|rfl
 .refine ax (λh=>by cases h) (λ_=>⟨rfl,rfl,ax (λ_=>?_) (λh=>by cases h)⟩)
  refine(anB he f s hs).mono ?_;rintro _ w1 ⟨⟨p,rfl⟩,hs1⟩;exact .inl ⟨_,rfl,⟨_,_,rfl⟩,hs1⟩
 .refine ax (λ_=>?_) (λh=>by cases h)
  refine(ank he f s hs).mono ?_;rintro _ w1 ⟨⟨p,rfl⟩,hs1⟩;exact .inl ⟨_,rfl,⟨_,_,rfl⟩,hs1⟩
def Read(r:Pr Int)(a b:Value):Prop:=match r with
 |.ok n=>a=.int .i64 n/\b=.nilIface
 |.bad k=>(∃m:Int,a=.int .i64 m/\-9223372036854775808<=m/\m<9223372036854775808)/\b=AH k
def Uu(r:Pr Nat)(a b:Value):Prop:=match r with
 |.ok n=>a=.int .u64 (n:Int)/\b=.nilIface
 |.bad k=>(a=.int .u64 (if k=1 then 18446744073709551615 else 0))/\b=AH k
def ayb(c:UInt8):bits .or .u8 (c.toNat:Int) 32=((rf c:Nat):Int):=by
 have h:∀n:Nat,n<256->bits .or .u8 (n:Int) 32=((n|||32:Nat):Int):=by decide+kernel
 rw[h _ c.toNat_lt];unfold rf;rw[UInt8.toNat_or];rfl
def R3(c:UInt8):an Fu #[.int .u8 (c.toNat:Int)] w (λe w'=>e=.returned (.int .u8 ((rf c:Nat):Int))/\w'=w):=
 ajC _ _ _ ⟨by rw[ayb],rfl⟩
def wrap_u8{n:Int}(h0:0<=n)(h1:n<256):u8.wrap n=n:=by simp only[IntKind.wrap,IntKind.signed,IntKind.bits];simp;omega
def aoh{n:Int}(h0:18446744073709551616<=n)(h1:n<36893488147419103232):u64.wrap n=n-18446744073709551616:=by simp only[IntKind.wrap,IntKind.signed,IntKind.bits];simp;omega
def awN{a d:Nat}(hd:d<36)(h:¬((a:Int)+(d:Int)-18446744073709551616<(a:Int))):False:=h (by omega)
def awO(c:UInt8):rf c<256:=(c|||32).toNat_lt
def awP{c:UInt8}{d:Nat}(h:uU c=some d):d<36:=by
 unfold uU at h;split at h
 .injection h with h;omega
 .split at h
  .injection h with h;omega
  .cases h
set_option maxRecDepth 20000 in
def an1(b:Nat)(hb:b=8\/b=10\/b=16)(z:Int)(hz:z=0\/z=64)(s:ag)(hs:s.length<=140737488355328):
  an OU #[.string (S s),.int .i64 (b:Int),.int .i64 z] w (λe w'=>(∃x y,e=.returned (.tuple #[x,y])/\Uu (lE b s) x y)/\Still w w'):=by
 apply ajo;refine ax (λh=>?_) (λh=>?_)
 .have h:=aQ h
  subst h;exact⟨⟨_,_,rfl,rfl,rfl⟩,Still.refl _⟩
 have h0:s≠[]:=aZ h;have hpu:lE b s=aIM b s 0:=by unfold lE;rw[aH h0]
 rw[hpu];have ay5:u64.wrap (b:Int)=(b:Int):=wrap_u64 (by omega) (by omega);have ayc:u8.wrap (b:Int)=(b:Int):=wrap_u8 (by omega) (by omega);refine⟨λs1 b1 w1=>s=s1/\b1=(b:Int)/\w1=w,⟨λx w1=>x=true/\w1=w,?_,?_⟩,?_⟩
 .exact ax (λ_=>⟨by rw[jc];omega,rfl⟩) (λh=>by have:=aZ h;omega)
 .rintro _ _ w1 ⟨rfl,rfl⟩
  exact ax (λ_=>⟨rfl,rfl,rfl⟩) (λh=>by cases h)
 rintro _ _ _ w1 ⟨rfl,rfl,rfl⟩;refine⟨λz1 w2=>z1=64/\w2=w1,?_,?_⟩
 .rcases hz with rfl|rfl
  .exact ax (λ_=>⟨rfl,rfl⟩) (λh=>by simp at h)
  .exact ax (λh=>by simp at h) (λ_=>ax (λh=>by simp at h) (λ_=>ax (λh=>by simp at h) (λ_=>⟨rfl,rfl⟩)))
 rintro _ _ w2 ⟨rfl,rfl⟩;refine⟨λc w3=>c=((18446744073709551615/b+1:Nat):Int)/\w3=w2,?_,?_⟩
 .rcases hb with rfl|rfl|rfl
  .refine ax (λh=>by simp at h) (λ_=>ax (λh=>by simp at h) (λ_=>⟨by decide,by decide,rfl⟩))
  .exact ax (λ_=>⟨by decide,rfl⟩) (λh=>by simp at h)
  .exact ax (λh=>by simp at h) (λ_=>ax (λ_=>⟨by decide,rfl⟩) (λh=>by simp at h))
 rintro _ _ w3 ⟨rfl,rfl⟩;refine⟨by decide,by omega,λcp w4 qA IF=>?_⟩;have aHS:Still w3 w4:=(Mod.refl _ _).grown IF (λg e=>by cases e);have V_:∀{w5:World},Still w4 w5->∀{k:Nat} {c:UInt8},s[k]?=some c->w5.cell? (Addr.mk w3.heap.size k none)=some (.int .u8 (c.toNat:Int)):=λhst k c hc=>hst.cell (qA.cells rfl k _ (G5 hc));have az4:u64.wrap (u64.wrap (1*2^(min (Int.toNat (u64.wrap 64)) (u64.bits)))-1)=18446744073709551615:=by decide
 rw[az4,ay5,ayc];refine⟨λu n i w5=>∃k m:Nat,u=false/\n=(m:Int)/\i=(k:Int)/\k<=s.length/\m<=18446744073709551615/\aIM b s 0=aIM b (s.drop k) m/\w5=w4,λ_ _ i _=>s.length-i.toNat,⟨0,0,rfl,rfl,rfl,dU _,by decide,rfl,rfl⟩,?_⟩;rintro _ _ _ _ w5 ⟨k,m,rfl,rfl,rfl,hk,hm,hsc,rfl⟩;refine ax (λhx=>?_) (λhx=>?_)
 .have hx:k<s.length:=by have:=aQ hx;omega
  have e1:i64.wrap ((k:Int)+1)=((k+1:Nat):Int):=wI;rw[e1,qM hx]at*;have hsk:=getD_some hx;generalize s[k]=c at*;have hc256:c.toNat<256:=c.toNat_lt;have stop:∀j,aIM b (c::s.drop (k+1)) m=.bad j->∀x,x=(if j=1 then 18446744073709551615 else 0:Int)->(∃x' y',(Ending.returned (.tuple #[.int .u64 x,AH j]))=.returned (.tuple #[x',y'])/\Uu (aIM b s 0) x' y')/\Still w3 w5:=by rintro j hj x rfl;rw[hsc,hj];exact⟨⟨_,_,rfl,rfl,rfl⟩,aHS⟩
  simp only[aIM]at stop hsc;refine⟨λu n w6=>u=false/\∃d,uU c=some d/\d<b/\m*b+d<=18446744073709551615/\n=((m*b+d:Nat):Int)/\w6=w5,⟨by omega,by omega,_,by rw[bW,aHA,bM,cL];exact V_ (Still.refl _) hsk,λu d w6=>u=false/\∃d':Nat,uU c=some d'/\d=(d':Int)/\w6=w5,⟨λx w6=>x=false/\w6=w5,?_,?_⟩,?_⟩,?_⟩
  .refine ax (λ_=>⟨?_,rfl⟩) (λ_=>⟨rfl,rfl⟩)
   rw[fY];omega
  .rintro _ _ w6 ⟨rfl,rfl⟩
   refine ax (λh=>by cases h) (λ_=>⟨λx w7=>x=(decide (48<=c.toNat/\c.toNat<=57))/\w7=w6,?_,?_⟩)
   .refine ax (λh1=>⟨?_,rfl⟩) (λh1=>⟨?_,rfl⟩)
    .have h1:48<=c.toNat:=by have:=aQ h1;omega
     by_cases h2:c.toNat<=57
     .rw[jc (show((c.toNat:Int)<=57) by omega),jc ⟨h1,h2⟩]
     .rw[fY (show¬((c.toNat:Int)<=57) by omega),fY (λh=>h2 h.2)]
    .have h1:¬48<=c.toNat:=by have:=aZ h1;omega
     rw[fY (λh=>h1 h.1)]
   .rintro _ _ w7 ⟨rfl,rfl⟩
    refine ax (λh=>?_) (λh=>?_)
    .have h:=aQ h
     refine⟨rfl,c.toNat-48,by unfold uU;rw[aN h],?_,rfl⟩;rw[wrap_u8 (by omega) (by omega)];omega
    .have h:=aZ h
     have IG:=awO c;refine(R3 c).mono ?_;rintro _ w8 ⟨rfl,rfl⟩;refine .inl ⟨_,rfl,ax (λh2=>?_) (λh2=>?_)⟩
     .have h2:97<=rf c:=by have:=aQ h2;omega
      refine(R3 c).mono ?_;rintro _ w8 ⟨rfl,rfl⟩;refine .inl ⟨_,rfl,ax (λh3=>?_) (λh3=>?_)⟩
      .have h3:rf c<=122:=by have:=aQ h3;omega
       refine(R3 c).mono ?_;rintro _ w8 ⟨rfl,rfl⟩;refine .inl ⟨_,rfl,rfl,rf c-97+10,by unfold uU;rw[aH h,aN ⟨h2,h3⟩],?_,rfl⟩;have e2:u8.wrap (((rf c:Nat):Int)-97)=((rf c-97:Nat):Int):=by rw[wrap_u8 (by omega) (by omega)];omega
       rw[e2,wrap_u8 (by omega) (by omega)];omega
      .have h3:¬rf c<=122:=by have:=aZ h3;omega
       have hd:uU c=none:=by unfold uU;rw[aH h,aH (λh=>h3 h.2)]
       exact stop 2 (by rw[hd]) 0 rfl
     .have h2:¬97<=rf c:=by have:=aZ h2;omega
      have hd:uU c=none:=by unfold uU;rw[aH h,aH (λh=>h2 h.1)]
      exact stop 2 (by rw[hd]) 0 rfl
  .rintro _ _ _ w6 ⟨rfl,d,hd,rfl,rfl⟩
   have az5:=awP hd;rw[hd]at stop hsc;dsimp only at stop hsc;refine ax (λh1=>?_) (λh1=>?_)
   .have h1:b<=d:=by have:=aQ h1;omega
    exact stop 2 (by rw[aN h1]) 0 rfl
   have h1:¬b<=d:=by have:=aZ h1;omega
   rw[aH h1]at stop hsc;have ov:18446744073709551615<m*b+d->∀x,x=(18446744073709551615:Int)->(∃x' y',(Ending.returned (.tuple #[.int .u64 x,AH 1]))=.returned (.tuple #[x',y'])/\Uu (aIM b s 0) x' y')/\Still w3 w6:=λh x hx=>stop 1 (by rw[aN h]) x (by rw[hx];rfl);have hdm:=Nat.div_add_mod 18446744073709551615 b;have hml:=Dz 18446744073709551615 (show 0<b by omega);refine ax (λh2=>?_) (λh2=>?_)
   .have h2:18446744073709551615/b+1<=m:=by have:=aQ h2;omega
    have h3:b*(18446744073709551615/b+1)<=b*m:=X3 _ h2;have h4:b*m=m*b:=Q8 _ _;rw[Nat.mul_add]at h3;exact ov (by omega) _ rfl
   have h2:m<=18446744073709551615/b:=by have:=aZ h2;omega
   have h3:b*m<=b*(18446744073709551615/b):=X3 _ h2;have h4:b*m=m*b:=Q8 _ _;have e2:u64.wrap ((m:Int)*(b:Int))=((m*b:Nat):Int):=by
    have:((m:Int)*(b:Int))=((m*b:Nat):Int):=by push_cast;rfl
    rw[this];exact wrap_u64 (by omega) (by omega)
   have e3:u64.wrap (d:Int)=(d:Int):=wrap_u64 (by omega) (by omega);rw[e2,e3]
   by_cases hov:18446744073709551615<m*b+d
   .have e4:u64.wrap (((m*b:Nat):Int)+(d:Int))=(((m*b:Nat):Int)+(d:Int)-18446744073709551616):=by
     rw[aoh (by omega) (by omega)]
    rw[e4];refine ax (λ_=>ov hov _ rfl) (λh5=>?_);have h6:=aZ h5;exact(awN az5 h6).elim
   .have e4:u64.wrap (((m*b:Nat):Int)+(d:Int))=((m*b+d:Nat):Int):=by
     rw[wrap_u64 (by omega) (by omega)];omega
    rw[e4];refine ax (λh5=>?_) (λ_=>ax (λh5=>?_) (λ_=>⟨rfl,d,hd,by omega,by omega,rfl,rfl⟩))
    .have:=aQ h5
     omega
    .have:=aQ h5
     omega
  .rintro _ _ _ w6 ⟨rfl,d,hd,hdb,hle,rfl,rfl⟩
   rw[hd]at hsc;dsimp only at hsc;rw[aH (by omega),aH (by omega)]at hsc;exact⟨⟨k+1,m*b+d,rfl,rfl,rfl,hx,hle,hsc,rfl⟩,by dsimp only;omega⟩
 .have hx:k=s.length:=by have:=aZ hx;omega
  subst hx;rw[aJx]at hsc;refine ax (λh=>by cases h) (λ_=>⟨⟨_,_,rfl,?_⟩,aHS⟩);rw[hsc];exact⟨rfl,rfl⟩
def two63{z:Int}(hz:z=64):u64.wrap (1*2^(min (Int.toNat (u64.wrap (i64.wrap (z-1)))) (u64.bits)))=9223372036854775808:=by subst hz;decide
def ava{m:Nat}(h:¬9223372036854775808<m):i64.wrap (0-i64.wrap (m:Int))= -(m:Int):=by simp only[IntKind.wrap,IntKind.signed,IntKind.bits];simp;omega
set_option maxRecDepth 20000 in
def aoi(b:Nat)(hb:b=8\/b=10\/b=16)(z:Int)(hz:z=0\/z=64)(s:ag)(hs:s.length<=140737488355328):
  an OZ #[.string (S s),.int .i64 (b:Int),.int .i64 z] w (λe w'=>(∃x y,e=.returned (.tuple #[x,y])/\Read (qe b s) x y)/\Still w w'):=by
 apply ajs;refine ax (λh=>?_) (λh=>?_)
 .have h:=aQ h
  subst h;exact⟨⟨_,_,rfl,⟨_,rfl,by decide,by decide⟩,rfl⟩,Still.refl _⟩
 have h0:s≠[]:=aZ h;refine⟨λs1 neg w1=>w1=w/\qe b s=signed neg (lE b s1)/\s1.length<=140737488355328,?_,?_⟩
 .cases s with
  |nil=>exact absurd rfl h0
  |cons c t=>
   simp only[a_]at hs;refine⟨by decide,c,rfl,ax (λh1=>?_) (λh1=>?_)⟩
   .have h1:c=43:=ey.1 (aQ h1)
    refine⟨by decide,by simp only[a_];omega,rfl,?_,by show t.length<=_;omega⟩;show qe b (c::t)=signed false (lE b t)
    simp only[qe];rw[aN h1]
   have h1:¬c=43:=λe=>aZ h1 (ey.2 e);refine ax (λh2=>?_) (λh2=>?_)
   .have h2:c=45:=ey.1 (aQ h2)
    refine⟨by decide,by simp only[a_];omega,rfl,?_,by show t.length<=_;omega⟩;show qe b (c::t)=signed true (lE b t)
    simp only[qe];rw[aH h1,aN h2]
   have h2:¬c=45:=λe=>aZ h2 (ey.2 e);refine⟨rfl,?_,by simp only[a_];omega⟩;simp only[qe];rw[aH h1,aH h2]
 rintro s1 neg _ w1 ⟨rfl,hpi,hs1⟩;rw[hpi];refine(an1 b hb z hz s1 hs1).mono ?_;rintro _ w2 ⟨⟨x,y,rfl,hr⟩,hs2⟩;have main:∃m:Nat,x=.int .u64 (m:Int)/\m<=18446744073709551615/\y.oneCell'=true/\
   ((y=.nilIface/\lE b s1=.ok m)\/(y=AH 1/\lE b s1=.bad 1/\m=18446744073709551615)\/(y=AH 2/\lE b s1=.bad 2)):=by
  cases hp:lE b s1 with
  |ok m=>rw[hp]at hr;obtain⟨rfl,rfl⟩:=hr;exact⟨m,rfl,ast hp,rfl,.inl ⟨rfl,rfl⟩⟩
  |bad k=>
   rw[hp]at hr;obtain⟨rfl,rfl⟩:=hr;rcases RZ hp with rfl|rfl
   .exact⟨18446744073709551615,rfl,by decide,rfl,.inr (.inl ⟨rfl,rfl,rfl⟩)⟩
   .exact⟨0,rfl,by decide,rfl,.inr (.inr ⟨rfl,rfl⟩)⟩
 obtain⟨m,rfl,hm,hy1,hy⟩:=main;refine .inl ⟨_,y,hy1,rfl,λw3=>w3=w2/\((lE b s1=.ok m)\/(lE b s1=.bad 1/\m=18446744073709551615)),⟨λq w3=>w3=w2/\((q=false/\((lE b s1=.ok m)\/(lE b s1=.bad 1/\m=18446744073709551615)))\/(q=true/\y=AH 2/\lE b s1=.bad 2)),?_,?_⟩,?_⟩
 .rcases hy with⟨rfl,hp⟩|⟨rfl,hp,hmm⟩|⟨rfl,hp⟩
  .exact⟨rfl,.inl ⟨rfl,.inl hp⟩⟩
  .exact⟨rfl,rfl,rfl,.inl ⟨rfl,.inr ⟨hp,hmm⟩⟩⟩
  .exact⟨rfl,rfl,rfl,.inr ⟨rfl,rfl,hp⟩⟩
 .rintro _ _ w3 ⟨rfl,⟨rfl,h⟩|⟨rfl,rfl,h⟩⟩
  .exact⟨rfl,h⟩
  .rw[h]
   exact⟨⟨_,_,rfl,⟨_,rfl,by decide,by decide⟩,rfl⟩,hs2⟩
 clear hy hy1 hr;rintro _ w3 ⟨rfl,hp⟩;have sg:signed neg (lE b s1)=if neg=true then(if 9223372036854775808<m then .bad 1 else .ok (-(m:Int)))else if 9223372036854775808<=m then .bad 1 else .ok (m:Int):=by
  rcases hp with hp|⟨hp,rfl⟩
  .rw[hp];rfl
  .rw[hp];cases neg<;>rfl
 rw[sg];clear sg hp;rcases hz with rfl|rfl<;>first|refine ax (λh=>absurd h (by decide)) (λ_=>?_)|refine ax (λ_=>?_) (λh=>absurd h (by decide))
 all_goals
  refine⟨by decide,?_⟩;rw[two63 rfl];cases neg with
  |false=>
   refine ax (λ_=>?_) (λh=>by cases h);refine ax (λh=>?_) (λh=>?_)
   .have h:9223372036854775808<=m:=by have:=aQ h;omega
    rw[aH (by decide),aN h];exact⟨⟨_,_,rfl,⟨_,rfl,by decide,by decide⟩,rfl⟩,hs2⟩
   .have h:¬9223372036854775808<=m:=by have:=aZ h;omega
    rw[aH (by decide),aH h];refine ax (λh=>by cases h) (λ_=>ax (λh=>by cases h) (λ_=>⟨⟨_,_,rfl,?_,rfl⟩,hs2⟩));rw[wrap_i64 (by omega) (by omega)]
  |true=>
   refine ax (λh=>by cases h) (λ_=>ax (λ_=>?_) (λh=>by cases h));refine ax (λh=>?_) (λh=>?_)
   .have h:9223372036854775808<m:=by have:=aQ h;omega
    rw[aN rfl,aN h];exact⟨⟨_,_,rfl,⟨_,rfl,by decide,by decide⟩,rfl⟩,hs2⟩
   .have h:¬9223372036854775808<m:=by have:=aZ h;omega
    rw[aN rfl,aH h];refine ax (λ_=>⟨⟨_,_,rfl,?_,rfl⟩,hs2⟩) (λh=>by cases h);rw[ava h]
def nd{p:Prop}[Decidable p](h:(!decide p)=false):p:=by simpa using h
def HC(s:ag)(w:World)(p:Option Addr)(n:Nat)(k:Int):Prop:=∃l,cZ w p n l/\((k=0/\decode s=some l)\/(k=20/\n=0/\decode s=none))
def HC.still{s:ag}{w':World}{p:Option Addr}{n:Nat}{k:Int}(h:HC s w p n k)(hm:Still w w'):HC s w' p n k:=by obtain⟨l,h1,h2⟩:=h;exact⟨l,h1.still hm,h2⟩
def HC.bad{s:ag}(h:decode s=none)(w:World):HC s w none 0 20:=⟨[],cZ.nil w,.inr ⟨rfl,rfl,h⟩⟩
def aS.afE{B:Nat}{e:TypeId}{size n:Nat}{p:Option Addr}{c:Nat}{xs:List Value}(h:aS w B e size (.slice p n c) n xs):n<=c:=by
 rcases h.2 with⟨he,rfl⟩|⟨g,cap,cur,he,_,_,hc,_⟩
 .exact dU _
 .injection he with _ _ e3
  subst e3;exact hc
def Gl{g:FuncId}{first cap:List Value}{K:FuncId->List Value->List Value->Prop}(h:K g first cap):gj (.func (.func g) ⟨first⟩ ⟨cap⟩) K:=h
def ayd:nV 86 2 0:=by unfold nV;kernel_rfl
def aoR{w0:World}{g B:Nat}{cs:List Value}{v:Value}{bs:List UInt8}(he:Env w0)(h0:Still w0 w)(hb:aHt w 86 g 0 B cs v bs)(hcs:cs.length=2)(hg:w0.heap.size<=g)(EP:w0.heap.size<=B)(hB:B<=w.heap.size)
  (x:ag)(hx:(dec x.length).length<=9)(hbs:bs.length+x.length<=70000000000000):
  an Dr #[.pointer (some ⟨g,0,none⟩),.string (S x)] w (λe w'=>e=.returned (.pointer (some ⟨g,0,none⟩))/\∃cs' v',cs'.length=2/\aHt w' 86 g 0 B cs' v' (bs++one x)/\Still w0 w'/\w.heap.size<=w'.heap.size):=by
 apply alP;refine(Sm (he.still h0) (x.length:Int) (by omega) (by omega)).mono ?_;rintro _ w1 ⟨rfl,hs1⟩;rw[Lib.itoa_nonneg];have hdx:(Lib.decDigits x.length).length<=9:=hx;have ho:((((dec x.length)++[58])++x)++[44]).length<=11+x.length:=by simp only[aHb,a_,cq];omega
 refine .inl ⟨_,rfl,?_⟩;have Wa:([58]:List UInt8).length=1:=rfl;have el2:([44]:List UInt8).length=1:=rfl;refine⟨by rw[Wa];omega,by rw[aHb,Wa];omega,by rw[aHb,aHb,Wa,el2];omega,?_⟩;refine(Bp (hb.still hs1) (by rw[hcs];exact ayd) (one x) (by have:=hs1.size;omega) (by have:(one x).length<=11+x.length:=ho;omega)).mono ?_;rintro _ w2 ⟨rfl,v',h1,h2⟩;refine .inl ⟨_,_,rfl,rfl,rfl,_,v',by simp[hcs],h1,?_,?_⟩
 .refine Mod.trans (h0.trans hs1) h2 (λ_ h=>h) (λi hi e=>?_)
  rcases e with rfl|e
  .omega
  .have:=hb.own.nu e
   omega
 .have:=hs1.size
  have:=h2.size;omega
set_option maxRecDepth 10000 in
def asK{w0:World}{g B:Nat}{cs:List Value}(he:Env w0)(h0:Still w0 w)(hb:aHt w 86 g 0 B cs (.slice none 0 0) [])(hcs:cs.length=2)(hg:w0.heap.size<=g)(EP:w0.heap.size<=B)(hB:B<=w.heap.size)
  {l:Option Addr}{lL lC:Nat}{ls:List ag}(hl:cZ w0 l lL ls)(ht:total ls<=100000):
  an OM #[.slice l lL lC,.pointer (some ⟨g,0,none⟩),.func (.func Dr) #[] #[]] w (λe w'=>e=.returned (.pointer (some ⟨g,0,none⟩))/\∃cs' v',aHt w' 86 g 0 B cs' v' (encode ls)/\Still w0 w'):=by
 apply ajd;have hn9:=acH ht;have hlen:=hl.1;have htl:=aoJ ls;refine⟨λr x w1=>∃(i:Nat) (cs:List Value) (v:Value),r=some ⟨g,0,none⟩/\x=(i:Int)/\i<=lL/\cs.length=2/\aHt w1 86 g 0 B cs v (encode (ls.take i))/\Still w0 w1/\B<=w1.heap.size,λ_ x _=>lL-x.toNat,
  ⟨0,cs,_,rfl,rfl,dU _,hcs,hb,h0,hB⟩,?_⟩
 rintro _ _ _ w1 ⟨i,cs1,v,rfl,rfl,hi,az6,gy,hs1,hB1⟩;refine ax (λhx=>?_) (λhx=>?_)
 .have hx:i<lL:=by have:=aQ hx;omega
  have e1:i64.wrap ((i:Int)+1)=((i+1:Nat):Int):=wI;obtain⟨a,rfl,hc⟩:=(hl.still hs1).get hx;refine⟨by omega,by omega,_,by rw[bW,aHA];exact hc,Gl (g:=Dr) (first:=[]) (cap:=[]) ?_⟩;refine ax (λ_=>?_) (λh=>absurd h (by rw[show cY aL Dr=true by kernel_rfl];decide));have hil:i<ls.length:=by omega
  have htk:=DJ hil;have hmem:ls[i]∈ls:=kL hil;have hel:=K0 (l:=ls.take i) (λx hx=>hn9 x (Pw hx));have htt:=Zi ls i;have hm:=Sj hmem;refine(aoR he hs1 gy az6 hg EP hB1 ls[i] (hn9 _ hmem) (by omega)).mono ?_;rintro _ w2 ⟨rfl,cs2,v2,az7,fO,hs2,gU⟩;refine .inl ⟨_,rfl,?_⟩;rw[e1];refine⟨⟨i+1,cs2,v2,rfl,rfl,hx,az7,?_,hs2,by omega⟩,by dsimp only;omega⟩;rw[htk,aoe];have:encode [ls[i]]=one ls[i]:=by simp[encode]
  rw[this];exact fO
 .have hx:i=ls.length:=by have:=aZ hx;omega
  rw[hx,aH0]at gy;exact⟨rfl,_,_,gy,hs1⟩
set_option maxRecDepth 10000 in
def Gf(he:Env w){l:Option Addr}{lL lC:Nat}{ls:List ag}(hl:cZ w l lL ls)(ht:total ls<=100000):
  an Bu #[.slice l lL lC] w (λe w'=>e=.returned (.string (S (encode ls)))/\Still w w'):=by
 apply amt;refine aO λw1 cy hs1 hz1=>?_;refine(asK (B:=w1.heap.size) he hs1 (aHt.fresh cy rfl rfl) rfl (aR _) (by omega) (aR _) hl ht).mono ?_;rintro _ w2 ⟨rfl,cs2,v2,fO,hs2⟩;refine .inl ⟨_,rfl,?_⟩;have hel:=K0 (acH ht);refine(aKa fO (by omega)).mono ?_;rintro _ w3 ⟨rfl,dx⟩;refine .inl ⟨_,rfl,rfl,Mod.trans hs2 dx (λ_ h=>h) (λi hi e=>?_)⟩;have:=fO.own.nu e;omega
end Go.Proofs.YtihaaoehhgmphaaGreatDoor
namespace Go.Proofs.YtihaaoehhgmphaaGreatDoor
open IntKind Go.RowKit Vc
set_option maxRecDepth 100000
variable{w w0:World}
def SV{g:Nat}{T:Tree}{p:ag}(h:dH w g (lD T))(ok:yZ T)(hp:p.length<=1000):an FR #[.map (some g),.string (S p)] w (λe w'=>e=.returned (qs (gz T p))/\Still w w'):=by
 apply al7;refine aO λw1 r1 s1 z1=>?_;refine ax (λhb=>?_) (λhb=>?_)
 .have e:p=[]:=aQ hb
  subst e;refine bF (g:=w.heap.size) (o:=0) r1 λw2 r2 m2 z2=>?_;exact⟨_,_,_,r2.ai rfl,r2.ai rfl,r2.ai rfl,rfl,s1.box (aR _) m2⟩
 .have e:p≠[]:=aZ hb
  refine⟨_,_,_,ass (h.still s1) ok hp,?_⟩;refine bF (g:=w.heap.size) (o:=0) r1 λw2 r2 m2 z2=>?_;refine⟨_,_,_,r2.ai rfl,r2.ai rfl,r2.ai rfl,?_,s1.box (aR _) m2⟩;rw[gz,aH e];rfl
def SW(he:Env w){n:Int}(h0:0<=n)(h1:n<=255):an Bt #[.int .i64 n] w (λe w'=>e=.returned (.string (S (dec n.toNat)))/\Still w w'):=by refine(Sm he n (by omega) (by omega)).mono ?_;rintro _ w1 ⟨rfl,s1⟩;refine⟨?_,s1⟩;unfold Lib.itoa;rw[aH (by omega)]
def GY{n:Nat}(h:n<=255):(dec n).length<=20:=by have:=Lr (n:=n) (by omega);omega
def Z3(he:Env w){x:mR}(hx:AU x)(hd:x.d.length<=50000):an Ku #[qs x] w (λe w'=>(∃s:ag,e=.returned (.string (S s)))/\Still w w'):=by
 apply amJ;refine aO λw1 r1 s1 z1=>?_;refine⟨x.k,r1.ai rfl,ax (λhb=>⟨⟨_,rfl⟩,s1⟩) (λhb=>?_)⟩;have sD:=s1.cG;refine⟨λwq=>Row wq w.heap.size qU ⟨uT x⟩,r1.drew,x.k,λwq hq=>hq.ai rfl,x.m,λwq hq=>hq.ai rfl,x.d,λwq hq=>hq.ai rfl,?_⟩;have hk:0<=x.k/\x.k<=255:=by rcases hx.k with h|h|h<;>omega
 have hm:0<=x.m/\x.m<=255:=by have:=hx.m;omega
 refine(SW (he.still sD) hk.1 hk.2).mono ?_;rintro _ w2 ⟨rfl,s2⟩;have dD:=sD.trans s2;refine .inl ⟨_,rfl,r1.drew.still s2,?_⟩;refine(SW (he.still dD) hm.1 hm.2).mono ?_;rintro _ w3 ⟨rfl,s3⟩;have jh:=dD.trans s3;refine .inl ⟨_,rfl,(r1.drew.still s2).still s3,?_⟩;refine aO λw4 r4 s4 z4=>?_;have mo:=jh.trans s4;have ra:cZ w4 (some ⟨w3.heap.size,0,none⟩) 3 [dec x.k.toNat,dec x.m.toNat,x.d]:=cZ.row r4;have l1:=GY (n:=x.k.toNat) (by omega);have l2:=GY (n:=x.m.toNat) (by omega);refine(Gf (he.still mo) ra (by simp only[total,gi,qR,rP,Ks];omega)).mono ?_;rintro _ w5 ⟨rfl,s5⟩;exact .inl ⟨_,rfl,⟨_,rfl⟩,mo.trans s5⟩
structure Tb where
 gt:Nat
 go:Nat
 gr:Nat
 gw:Nat
def NmT(T:Tree):Prop:=∀x∈T,∃nm,x.1=47::nm/\(47:UInt8)∉nm
def tI(T:Tree):Prop:=yZ T/\(∀x∈T,x.2.d.length<=50000)/\NmT T/\T.length<=51
def Tz{T:Tree}(h:tI T)(p:ag):(gz T p).d.length<=50000:=by
 unfold gz;split
 .exact dU _
 .have:∀{T:Tree},(∀x∈T,x.2.d.length<=50000)->(fU T p).d.length<=50000:=by
   intro T
   induction T with
   |nil=>intro _;exact dU _
   |cons x r ih=>
    intro h;obtain⟨q,e⟩:=x;unfold fU;split
    .exact h (q,e) (by simp)
    .exact ih λy hy=>h y (by simp[hy])
  exact this h.2.1
def BJ:∀(T:Tree) (p:ag) (e:mR),(aH3 T p e).length<=T.length+1
 |[],_,_=>aR _
 |(q,x)::r,p,e=>by have:=BJ r p e;unfold aH3;split<;>simp only[a_]<;>omega
def avb{T:Tree}(h:tI T){p:ag}{e:mR}(hp:p.length<=1000)(he:AU e)(hd:e.d.length<=50000)(hnm:∃nm,p=47::nm/\(47:UInt8)∉nm)(hl:T.length<=50):tI (aH3 T p e):=⟨awB h.1 hp he,λx hx=>by
 rcases BI hx with rfl|hx
 .exact hd
 .exact h.2.1 x hx,λx hx=>by
 rcases BI hx with rfl|hx
 .exact hnm
 .exact h.2.2.1 x hx,by have:=BJ T p e;omega⟩
structure Av(w:World)(B g:Nat)(t:Tb)(n:Nat):Prop where
 top:Row w t.gt F4 ⟨[.map (some t.go),.map (some t.gr),.map (some t.gw)]⟩
 old:∃T,dH w t.go (lD T)/\tI T
 rd:∃l,dH w t.gr (Ep l)/\(∀x∈l,x.1.1.length<=1000)/\l.length<=n
 wr:∃l,dH w t.gw (aH4 l)/\(∀x∈l,x.length<=1000)/\l.length<=n
 low:B<=t.gt/\B<=t.go/\B<=t.gr/\B<=t.gw
 ne:g≠t.go/\g≠t.gr/\g≠t.gw/\t.go≠t.gr/\t.go≠t.gw/\t.gr≠t.gw
structure cv(w:World)(B a g:Nat)(tr:Option Tb)(n:Nat)(T:Tree):Prop where
 top:Row w a aHV ⟨[.map (some g),.pointer (tr.map λt=>⟨t.gt,0,none⟩)]⟩
 now:dH w g (lD T)
 cB:tI T
 low:B<=a/\B<=g
 qB:∀t,tr=some t->Av w B g t n
def SF(a g:Nat)(tr:Option Tb)(k:Nat):Prop:=k=a\/k=g\/∃t,tr=some t/\(k=t.gt\/k=t.go\/k=t.gr\/k=t.gw)
section
variable{B a g n:Nat}{tr:Option Tb}{T:Tree}{w':World}{S:Nat->Prop}
def Av.mod{t:Tb}(h:Av w B g t n)(hm:Mod S w w')(h1:¬S t.gt)(h2:¬S t.go)(h3:¬S t.gr)(h4:¬S t.gw):Av w' B g t n:=by obtain⟨T,o1,o2⟩:=h.old;obtain⟨l,r1,r2⟩:=h.rd;obtain⟨m,p1,p2⟩:=h.wr;exact⟨h.top.mod hm h1,⟨T,o1.mod hm h2,o2⟩,⟨l,r1.mod hm h3,r2⟩,⟨m,p1.mod hm h4,p2⟩,h.low,h.ne⟩
def Av.up{t:Tb}{m:Nat}(h:Av w B g t n)(hm:n<=m):Av w B g t m:=by obtain⟨l,r1,r2,r3⟩:=h.rd;obtain⟨k,p1,p2,p3⟩:=h.wr;exact⟨h.top,h.old,⟨l,r1,r2,by omega⟩,⟨k,p1,p2,by omega⟩,h.low,h.ne⟩
def cv.up{m:Nat}(h:cv w B a g tr n T)(hm:n<=m):cv w B a g tr m T:=⟨h.top,h.now,h.cB,h.low,λt ht=>(h.qB t ht).up hm⟩
def cv.mod(h:cv w B a g tr n T)(hm:Mod S w w')(hS:∀k,SF a g tr k->¬S k):cv w' B a g tr n T:=
 ⟨h.top.mod hm (hS _ (.inl rfl)),h.now.mod hm (hS _ (.inr (.inl rfl))),h.cB,h.low,λt ht=>(h.qB t ht).mod hm (hS _ (.inr (.inr ⟨t,ht,.inl rfl⟩))) (hS _ (.inr (.inr ⟨t,ht,.inr (.inl rfl)⟩))) (hS _ (.inr (.inr ⟨t,ht,.inr (.inr (.inl rfl))⟩))) (hS _ (.inr (.inr ⟨t,ht,.inr (.inr (.inr rfl))⟩)))⟩
def cv.still(h:cv w B a g tr n T)(hm:Still w w'):cv w' B a g tr n T:=h.mod hm λ_ _ h=>h
def cv.aHO(h:cv w B a g tr n T){k:Nat}(hk:SF a g tr k):B<=k/\k<w.heap.size:=by
 rcases hk with rfl|rfl|⟨t,ht,hk⟩
 .exact⟨h.low.1,h.top.lt⟩
 .exact⟨h.low.2,h.now.lt⟩
 .have d:=h.qB t ht
  obtain⟨_,o1,_⟩:=d.old;obtain⟨_,r1,_⟩:=d.rd;obtain⟨_,p1,_⟩:=d.wr;rcases hk with rfl|rfl|rfl|rfl
  .exact⟨d.low.1,d.top.lt⟩
  .exact⟨d.low.2.1,o1.lt⟩
  .exact⟨d.low.2.2.1,r1.lt⟩
  .exact⟨d.low.2.2.2,p1.lt⟩
def cv.stays(h:cv w w0.heap.size a g tr n T)(h0:Still w0 w)(hm:Mod (SF a g tr) w w'):Still w0 w':=Mod.trans h0 hm (λ_ h=>h) (λi hi hk=>by have:=(h.aHO hk).1;omega)
def Tb.apart{t:Tb}(h:Av w B g t n):t.gt≠t.go/\t.gt≠t.gr/\t.gt≠t.gw:=by obtain⟨_,o1,_⟩:=h.old;obtain⟨_,r1,_⟩:=h.rd;obtain⟨_,p1,_⟩:=h.wr;exact⟨(o1.c7 h.top).symm,(r1.c7 h.top).symm,(p1.c7 h.top).symm⟩
end
def RF(tr:Option Tb)(k:Nat):Prop:=∃t,tr=some t/\k=t.gr
def WF(g:Nat)(tr:Option Tb)(k:Nat):Prop:=k=g\/∃t,tr=some t/\(k=t.gr\/k=t.gw)
def RF.sf{a g:Nat}{tr:Option Tb}{k:Nat}(h:RF tr k):SF a g tr k:=by obtain⟨t,ht,rfl⟩:=h;exact .inr (.inr ⟨t,ht,.inr (.inr (.inl rfl))⟩)
def WF.sf{a g:Nat}{tr:Option Tb}{k:Nat}(h:WF g tr k):SF a g tr k:=by
 rcases h with rfl|⟨t,ht,rfl|rfl⟩
 .exact .inr (.inl rfl)
 .exact .inr (.inr ⟨t,ht,.inr (.inr (.inl rfl))⟩)
 .exact .inr (.inr ⟨t,ht,.inr (.inr (.inr rfl))⟩)
def apA(he:Env w){g:Nat}{T:Tree}{p:ag}(h:dH w g (lD T))(cB:tI T)(hp:p.length<=1000):an JY #[.map (some g),Ci (p,false)] w (λe w'=>(∃s:ag,e=.returned (.string (S s)))/\Still w w'):=by apply XY;refine aO λw1 r1 s1 z1=>?_;refine⟨_,r1.ai rfl,?_⟩;refine⟨_,r1.ai rfl,(SV (h.still s1) cB.1 hp).mono ?_⟩;rintro _ w2 ⟨rfl,s2⟩;refine .inl ⟨_,_,_,rfl,(Z3 (he.still (s1.trans s2)) (T9 cB.1 p) (Tz cB p)).mono ?_⟩;rintro _ w3 ⟨⟨s,rfl⟩,s3⟩;exact .inl ⟨_,rfl,⟨_,rfl⟩,(s1.trans s2).trans s3⟩
def acR(w:World):(zeroValue bJ).run aL w=.ok (.string (S [])) w:=rfl
def asL(w:World):(zeroValue 4).run aL w=.ok (.bool false) w:=rfl
def agu(p:ag)(b:Bool):Prop:=∀(w:World) (g:Nat) (T:Tree),Env w->dH w g (lD T)->tI T->an JY #[.map (some g),Ci (p,b)] w (λe w'=>(∃s:ag,e=.returned (.string (S s)))/\Still w w')
def abS{b:Bool}(he:Env w0)(h0:Still w0 w){a g n:Nat}{tr:Option Tb}{T:Tree}(h:cv w w0.heap.size a g tr n T){p:ag}(hp:p.length<=1000)(hv:agu p b):
  an JV #[.pointer (some ⟨a,0,none⟩),Ci (p,b)] w (λe w'=>e=.returned (.tuple #[])/\cv w' w0.heap.size a g tr (n+1) T/\Mod (RF tr) w w'):=by
 apply alc;refine aO λw1 r1 s1 z1=>?_;have sD:=s1.cG;have hD:=h.still sD;have A2:=r1.drew;refine⟨λw2=>w2=w1.drew/\tr≠none,⟨λb' w2=>w2=w1.drew/\(b'=false->tr≠none),⟨λwq=>Row wq a aHV ⟨[.map (some g),.pointer (tr.map λt=>⟨t.gt,0,none⟩)]⟩/\Row wq w.heap.size qS ⟨[.string (S p),.bool b]⟩/\∀t,tr=some t->Row wq t.gt F4 ⟨[.map (some t.go),.map (some t.gr),.map (some t.gw)]⟩,⟨hD.top,A2,λt ht=>(hD.qB t ht).top⟩,?_⟩,?_⟩,?_⟩
 .refine⟨_,λwq hq=>hq.1.ai rfl,?_⟩
  cases tr with
  |none=>exact⟨rfl,λh=>by cases h⟩
  |some t=>
   have d:=hD.qB t rfl;obtain⟨l,p1,p2,p3⟩:=d.wr;refine⟨b,λwq hq=>hq.2.1.ai rfl,ax (λ_=>?_) (λ_=>⟨rfl,λ_=>by simp⟩)⟩;refine⟨_,λwq hq=>hq.1.ai rfl,_,rfl,λwq hq=>(hq.2.2 t rfl).ai rfl,_,λwq hq=>hq.2.1.ai rfl,?_⟩;rcases DO vU T_ (asL _) p1 (rZ rfl (qW hp)) (Tt p2) false with⟨v,h1,h2⟩|⟨h1,h2⟩
   .obtain⟨x,hx,e⟩:=dM.1 h1
    obtain⟨_,rfl⟩:=aJB e;exact⟨_,h2,rfl,λ_=>by simp⟩
   .exact⟨_,h2,rfl,λ_=>by simp⟩
 .rintro b' _ w2 ⟨rfl,hb⟩
  cases b' with
  |true=>exact⟨rfl,hD.up (aKn n),sD.weaken λ_ h=>h.elim⟩
  |false=>exact⟨rfl,hb rfl⟩
 .rintro _ w3 ⟨rfl,hb⟩
  obtain⟨t,rfl⟩:=Option.ne_none_iff_exists'.1 hb;have d:=hD.qB t rfl;obtain⟨l,q1,q2,q3⟩:=d.rd;obtain⟨To,o1,o2⟩:=d.old;have sDD:=sD.cG;have h2:=hD.still (Still.refl _).cG;refine⟨λwq=>Row wq a aHV ⟨[.map (some g),.pointer (some ⟨t.gt,0,none⟩)]⟩/\Row wq w.heap.size qS ⟨[.string (S p),.bool b]⟩/\Row wq t.gt F4 ⟨[.map (some t.go),.map (some t.gr),.map (some t.gw)]⟩,⟨h2.top,A2.drew,(h2.qB t rfl).top⟩,_,λwq hq=>hq.1.ai rfl,_,rfl,λwq hq=>hq.2.2.ai rfl,_,_,λwq hq=>hq.2.1.ai rfl,λwq hq=>hq.2.1.ai rfl,?_⟩;obtain⟨lk,hlk⟩:=adN (f:=(p,b)) hp;rcases DO adO aeJ (acR _) ((q1.still (Still.refl _).cG)) hlk (adP q2) true with⟨v,h3,h4⟩|⟨h3,h4⟩
  .obtain⟨x,hx,e⟩:=dM.1 h3
   obtain⟨_,rfl⟩:=aJB e;exact⟨_,_,h4,rfl,h2.up (aKn n),sDD.weaken λ_ h=>h.elim⟩
  .refine⟨_,_,h4,?_⟩
   have agv:=sDD.cG;have h5:=h2.still (Still.refl _).cG;refine⟨λwq=>Row wq a aHV ⟨[.map (some g),.pointer (some ⟨t.gt,0,none⟩)]⟩/\Row wq w.heap.size qS ⟨[.string (S p),.bool b]⟩/\Row wq t.gt F4 ⟨[.map (some t.go),.map (some t.gr),.map (some t.gw)]⟩,⟨h5.top,A2.drew.drew,(h5.qB t rfl).top⟩,_,λwq hq=>hq.1.ai rfl,_,rfl,λwq hq=>hq.2.2.ai rfl,_,_,λwq hq=>hq.2.1.ai rfl,λwq hq=>hq.2.1.ai rfl,_,λwq hq=>hq.1.ai rfl,_,rfl,λwq hq=>hq.2.2.ai rfl,_,_,λwq hq=>hq.2.1.ai rfl,λwq hq=>hq.2.1.ai rfl,?_⟩;have o3:=(o1.still (Still.refl _).cG).still (Still.refl _).cG;refine(hv _ _ _ (he.still (h0.trans agv)) o3 o2).mono ?_;rintro _ w4 ⟨⟨s,rfl⟩,s4⟩;have h6:=h5.still s4;refine .inl ⟨_,rfl,⟨h6.top,(A2.drew.drew).still s4,(h6.qB t rfl).top⟩,?_⟩;have d6:=h6.qB t rfl;have q6:=((q1.still (Still.refl _).cG).still (Still.refl _).cG).still s4;obtain⟨w5,u1,u2,u3,u4⟩:=L9 adO aeJ q6 hlk (adP q2) h3 (.string (S s));have ap:=Tb.apart d6;refine⟨w5,u1,rfl,⟨h6.top.mod u3 (λe=>?_),h6.now.mod u3 d6.ne.2.1,h6.cB,h6.low,λt' ht'=>?_⟩,?_⟩
   .exact(q6.c7 h6.top) e.symm
   .obtain rfl:=bO ht'
    obtain⟨m,p1,p2,p3⟩:=d6.wr;obtain⟨To',o4,o5⟩:=d6.old;refine⟨d6.top.mod u3 ap.2.1,⟨To',o4.mod u3 d6.ne.2.2.2.1,o5⟩,⟨l++[((p,b),s)],by simpa[Ep]using u2,λx hx=>?_,by simp;omega⟩,⟨m,p1.mod u3 (λe=>d6.ne.2.2.2.2.2 e.symm),p2,by omega⟩,d6.low,d6.ne⟩;rcases mE.1 hx with hx|hx
    .exact q2 x hx
    .obtain rfl:=jb.1 hx
     exact hp
   .exact Mod.trans (agv.trans s4) u3 (λ_ h=>h.elim) (λi _ e=>⟨t,rfl,e⟩)
def TA(he:Env w0)(h0:Still w0 w){a g n:Nat}{tr:Option Tb}{T:Tree}(h:cv w w0.heap.size a g tr n T){p:ag}(hp:p.length<=1000):
  an qQ #[.pointer (some ⟨a,0,none⟩),.string (S p)] w (λe w'=>e=.returned (qs (gz T p))/\cv w' w0.heap.size a g tr (n+1) T/\Mod (RF tr) w w'):=by
 apply alU;refine aO λw1 r1 s1 z1=>?_;refine(abS he (h0.trans s1) (h.still s1) hp (λw g T he hm cB=>apA he hm cB hp)).mono ?_;rintro _ w2 ⟨rfl,h2,m2⟩;have hr:¬RF tr w.heap.size:=λhk=>by have:=(h.aHO (RF.sf hk)).2;omega
 have r2:=r1.mod m2 hr;refine .inl ⟨rfl,_,rfl,h2.top.ai rfl,(SV h2.now h2.cB.1 hp).mono ?_⟩;rintro _ w3 ⟨rfl,s3⟩;refine .inl ⟨_,_,_,rfl,bF (g:=w.heap.size) (o:=0) (r2.still s3) λw4 r4 m4 z4=>?_⟩;have m3:Mod (RF tr) w w3:=Mod.trans (Mod.trans s1 m2 (λ_ h=>h.elim) (λ_ _ h=>h)) s3 (λ_ h=>h) (λ_ _ h=>h.elim);refine⟨_,_,_,r4.ai rfl,r4.ai rfl,r4.ai rfl,rfl,(h2.still s3).mod m4 (λk hk e=>?_),Mod.trans m3 m4 (λ_ h=>h) (λi hi e=>by omega)⟩;have:=(h.aHO hk).2;omega
def avc(he:Env w0)(h0:Still w0 w){a g n:Nat}{tr:Option Tb}{T:Tree}(h:cv w w0.heap.size a g tr n T){p:ag}(hp:p.length<=1000)(hne:p≠[]){x:mR}(hx:AU x)(hk:x.k≠0)(hd:x.d.length<=50000)(hnm:∃nm,p=47::nm/\(47:UInt8)∉nm)(hlT:T.length<=50):
  an Qy #[.pointer (some ⟨a,0,none⟩),.string (S p),qs x] w (λe w'=>e=.returned (.tuple #[])/\cv w' w0.heap.size a g tr (n+1) (aH3 T p x)/\Mod (WF g tr) w w'):=by
 apply alB;refine aO λw1 r1 s1 z1=>?_;have h1:=h.still s1;refine ax (λhb=>absurd (aQ hb) hne) (λ_=>?_);refine⟨λw3=>cv w3 w0.heap.size a g tr (n+1) T/\Mod (WF g tr) w w3/\Row w3 w.heap.size qU ⟨uT x⟩,?_,?_⟩
 .refine⟨_,h1.top.ai rfl,?_⟩
  cases tr with
  |none=>exact⟨h1.up (aKn n),s1.weaken λ_ h=>h.elim,r1⟩
  |some t=>
   have d:=h1.qB t rfl;obtain⟨l,p1,p2,p3⟩:=d.wr;refine⟨_,h1.top.ai rfl,_,rfl,d.top.ai rfl,?_⟩;have ap:=Tb.apart d;have fin:∀(l':List ag) (w2:World),dH w2 t.gw (aH4 l')->(∀x∈l',x.length<=1000)->l'.length<=n+1->Mod (λk=>k=t.gw) w1 w2->cv w2 w0.heap.size a g (some t) (n+1) T/\Mod (WF g (some t)) w w2/\Row w2 w.heap.size qU ⟨uT x⟩:=by intro l' w2 a1 a2 a3 u3;obtain⟨To,o4,o5⟩:=d.old;obtain⟨m,q1,q2,q3⟩:=d.rd;refine⟨⟨h1.top.mod u3 λe=>(p1.c7 h1.top) e.symm,h1.now.mod u3 d.ne.2.2.1,h1.cB,h1.low,λt' ht'=>?_⟩,Mod.trans s1 u3 (λ_ h=>h.elim) (λi _ e=>.inr ⟨t,rfl,.inr e⟩),r1.mod u3 λe=>(p1.c7 r1) e.symm⟩;obtain rfl:=bO ht';exact⟨d.top.mod u3 ap.2.2,⟨To,o4.mod u3 d.ne.2.2.2.2.1,o5⟩,⟨m,q1.mod u3 d.ne.2.2.2.2.2,q2,by omega⟩,⟨l',a1,a2,a3⟩,d.low,d.ne⟩
   by_cases hin:p∈l
   .obtain⟨l1,l2,rfl⟩:=Yc hin
    have hw:=Tt p2;simp only[aH4,aIW,gi]at p1 hw;obtain⟨w2,u1,u2,u3,u4⟩:=aeI vU T_ p1 (rZ rfl (qW hp)) hw (.bool true);exact⟨w2,u1,fin (l1++p::l2) w2 (by simpa[aH4]using u2) p2 (by omega) u3⟩
   .obtain⟨w2,u1,u2,u3,u4⟩:=L9 vU T_ p1 (rZ rfl (qW hp)) (Tt p2) (λq hq e=>by
     obtain⟨y,hy,rfl⟩:=dM.1 hq;exact hin (by rw[<-str_inj e];exact hy)) (.bool true)
    refine⟨w2,u1,fin (l++[p]) w2 (by simpa[aH4]using u2) (λy hy=>?_) (by simp;omega) u3⟩;rcases mE.1 hy with hy|hy
    .exact p2 y hy
    .obtain rfl:=jb.1 hy
     exact hp
 .rintro _ w3 ⟨h3,m3,r3⟩
  refine⟨_,r3.ai rfl,ax (λhb=>absurd (aQ hb) hk) (λ_=>?_)⟩;have nE:=h3.still (Still.refl _).cG;have r3D:=r3.drew;refine⟨λwq=>Row wq a aHV ⟨[.map (some g),.pointer (tr.map λt=>⟨t.gt,0,none⟩)]⟩/\Row wq w.heap.size qU ⟨uT x⟩,⟨nE.top,r3D⟩,_,rfl,λwq hq=>hq.1.ai rfl,_,_,_,λwq hq=>hq.2.ai rfl,λwq hq=>hq.2.ai rfl,λwq hq=>hq.2.ai rfl,?_⟩;obtain⟨w4,u1,u2,u3,u4⟩:=auU nE.now nE.cB.1 hp x;refine⟨w4,u1,rfl,⟨nE.top.mod u3 λe=>(nE.now.c7 nE.top) e.symm,u2,avb nE.cB hp hx hd hnm hlT,nE.low,λt ht=>?_⟩,Mod.trans m3.drew u3 (λ_ h=>h) (λi _ e=>.inl e)⟩;have d:=nE.qB t ht;exact d.mod u3 (λe=>(nE.now.c7 d.top) e.symm) (λe=>d.ne.1 e.symm) (λe=>d.ne.2.1 e.symm) (λe=>d.ne.2.2.1 e.symm)
def abT:Lp aL Ro:=⟨_,Tryz.func336,by kernel_rfl,by kernel_rfl,by kernel_rfl,by kernel_rfl⟩
def apB{g:Nat}{es:List KV}(h:dH w g es):an OH #[.map (some g)] w (λe w'=>e=.returned (.map (some w.heap.size))/\dH w' w.heap.size es/\Still w w'/\w'.heap.size=w.heap.size+1):=by apply ai_;obtain⟨ms,c,hg,hG⟩:=h;refine⟨abT,ms,c,hg,mg ⟨rfl,hG.copy w,(Mod.refl _ _).alloc _,World.size_alloc ..⟩⟩
def apC{g:Nat}{es:List KV}(h:dH w g es):an OF #[.map (some g)] w (λe w'=>e=.returned (.map (some w.heap.size))/\dH w' w.heap.size es/\Still w w'/\w'.heap.size=w.heap.size+1):=by apply ai7;obtain⟨ms,c,hg,hG⟩:=h;refine⟨abT,ms,c,hg,mg ⟨rfl,hG.copy w,(Mod.refl _ _).alloc _,World.size_alloc ..⟩⟩
def Sn:an F7 #[] w (λe w'=>e=.returned (.pointer (some ⟨w.heap.size+1,0,none⟩))/\cv w' w.heap.size (w.heap.size+1) w.heap.size none 0 []/\Still w w'/\w'.heap.size=w.heap.size+2):=by apply anv;have s1:Still w (w.alloc (.map #[] 0)):=(Mod.refl _ _).alloc _;have m1:=dH.new w;have z1:(w.alloc (.map #[] 0)).heap.size=w.heap.size+1:=World.size_alloc ..;refine mg ?_;generalize w.alloc (.map #[] 0)=w1 at*;refine aO λw2 r2 s2 z2=>?_;rw[z1]at r2;refine⟨by show Ending.returned (.pointer (some ⟨w1.heap.size,0,none⟩))=_;rw[z1],⟨r2,m1.still s2,⟨λx hx=>(by cases hx),λx hx=>(by cases hx),λx hx=>(by cases hx),by decide⟩,⟨by omega,aR _⟩,λt ht=>(by cases ht)⟩,s1.trans s2,by omega⟩
def aaN{a g n:Nat}{T:Tree}(h:cv w w0.heap.size a g none n T)(h0:Still w0 w):
  an JS #[.pointer (some ⟨a,0,none⟩)] w (λe w'=>e=.returned (.tuple #[])/\∃t,cv w' w0.heap.size a g (some t) 0 T/\Mod (λk=>k=a) w w'/\w.heap.size<=t.gt/\w.heap.size<=t.go/\w.heap.size<=t.gr/\w.heap.size<=t.gw):=by
 apply ak6;refine⟨_,rfl,h.top.ai rfl,(apB h.now).mono ?_⟩;rintro _ w1 ⟨rfl,o1,s1,z1⟩;refine .inl ⟨_,rfl,rfl,mg ?_⟩;have s2:Still w1 (w1.alloc (.map #[] 0)):=(Mod.refl _ _).alloc _;have r2:=dH.new w1;have z2:(w1.alloc (.map #[] 0)).heap.size=w1.heap.size+1:=World.size_alloc ..;generalize w1.alloc (.map #[] 0)=w2 at*;refine mg ?_;have s3:Still w2 (w2.alloc (.map #[] 0)):=(Mod.refl _ _).alloc _;have p3:=dH.new w2;have z3:(w2.alloc (.map #[] 0)).heap.size=w2.heap.size+1:=World.size_alloc ..;generalize w2.alloc (.map #[] 0)=w3 at*;refine US rfl (aO λw4 r4 s4 z4=>?_);have ji:Still w w4:=((s1.trans s2).trans s3).trans s4;have h4:=h.still ji;refine bF (g:=a) (o:=1) h4.top λw5 r5 m5 z5=>?_;have hz:=h0.size;have la:=h.top.lt;have lg:=h.now.lt;refine⟨rfl,⟨w3.heap.size,w.heap.size,w1.heap.size,w2.heap.size⟩,⟨r5,h4.now.mod m5 (λe=>h4.now.c7 h4.top e),h.cB,h.low,λt ht=>?_⟩,Mod.trans ji m5 (λ_ h=>h.elim) (λ_ _ h=>h),by dsimp only;omega,aR _,by dsimp only;omega,by dsimp only;omega⟩;obtain rfl:=bO ht;refine⟨r4.mod m5 (by omega),⟨T,(((o1.still s2).still s3).still s4).mod m5 (by omega),h.cB⟩,⟨[],((r2.still s3).still s4).mod m5 (by omega),λx hx=>(by cases hx),dU _⟩,⟨[],(p3.still s4).mod m5 (by omega),λx hx=>(by cases hx),dU _⟩,⟨by dsimp only;omega,by dsimp only;omega,by dsimp only;omega,by dsimp only;omega⟩,?_⟩;dsimp only;refine⟨by omega,by omega,by omega,by omega,by omega,by omega⟩
def avd(n:Nat)(hn:n<=1000000):an YI #[.int .u64 (n:Int)] w (λe w'=>(∃l:Int,e=.returned (.int .i64 l))/\w'=w):=
 (Tryz.bits_Len (n:Int) w (by omega) (by omega)).mono λ_ _ h=>⟨⟨_,h.1⟩,h.2⟩
def aHZ(x:ag×Bool×ag):List Value:=[.string (S x.1),.bool x.2.1,.string (S x.2.2)]
def aaO(x:ag):an JZ #[.string (S x)] w (λe w'=>e=.returned (.bool false)/\w'=w):=by apply alh;simp[Ym,zR]
def Z4(x:Int):an Kj #[.int .i64 x] w (λe w'=>e=.returned (.bool false)/\w'=w):=by apply amf;simp[YM,zR]
def aoj(x y:ag):an PU #[.string (S x),.string (S y)] w (λe w'=>(∃n:Int,e=.returned (.int .i64 n))/\w'=w):=by refine akJ _ _ _ _ ((aaO x).mono ?_);rintro _ _ ⟨rfl,rfl⟩;refine .inl ⟨_,rfl,(aaO y).mono ?_⟩;rintro _ _ ⟨rfl,rfl⟩;exact .inl ⟨_,rfl,(show aq (Op.bytesLess x y) _ (aq (!(Op.bytesLess x y||decide (x=y))) _ _)from ax (λ_=>⟨⟨_,rfl⟩,rfl⟩) (λ_=>ax (λ_=>⟨⟨_,rfl⟩,rfl⟩) (λ_=>⟨⟨_,rfl⟩,rfl⟩)))⟩
def aok(x y:Int):an QA #[.int .i64 x,.int .i64 y] w (λe w'=>(∃n:Int,e=.returned (.int .i64 n))/\w'=w):=by refine alF _ _ _ _ ((Z4 x).mono ?_);rintro _ _ ⟨rfl,rfl⟩;refine .inl ⟨_,rfl,(Z4 y).mono ?_⟩;rintro _ _ ⟨rfl,rfl⟩;exact .inl ⟨_,rfl,(show aq (decide (x<y)) _ (aq (decide (y<x)) _ _)from ax (λ_=>⟨⟨_,rfl⟩,rfl⟩) (λ_=>ax (λ_=>⟨⟨_,rfl⟩,rfl⟩) (λ_=>⟨⟨_,rfl⟩,rfl⟩)))⟩
def aaP(b:Bool):an Kw #[.bool b] w (λe w'=>(∃n:Int,e=.returned (.int .i64 n))/\w'=w):=by apply amP;exact ax (λ_=>⟨⟨_,rfl⟩,rfl⟩) (λ_=>⟨⟨_,rfl⟩,rfl⟩)
def asM(x y:ag×Bool×ag):an aJ8 #[.agg ⟨aHZ x⟩,.agg ⟨aHZ y⟩] w (λe w'=>(∃n:Int,e=.returned (.int .i64 n))/\Still w w'):=by
 apply anb;refine aO λw1 r1 s1 z1=>aO λw2 r2 s2 z2=>?_;have sD:=(s1.trans s2).cG;have A2:=(r1.still s2).drew;have Wb:=r2.drew;refine⟨λwq=>Row wq w.heap.size 321 ⟨aHZ x⟩/\Row wq w1.heap.size 321 ⟨aHZ y⟩,⟨A2,Wb⟩,_,λwq hq=>hq.1.ai rfl,_,λwq hq=>hq.2.ai rfl,_,λwq hq=>hq.1.ai rfl,_,λwq hq=>hq.2.ai rfl,(aoj _ _).mono ?_⟩;rintro _ _ ⟨⟨n1,rfl⟩,rfl⟩;refine .inl ⟨_,rfl,⟨A2,Wb⟩,(aaP _).mono ?_⟩;rintro _ _ ⟨⟨n2,rfl⟩,rfl⟩;refine .inl ⟨_,rfl,⟨A2,Wb⟩,(aaP _).mono ?_⟩;rintro _ _ ⟨⟨n3,rfl⟩,rfl⟩;refine .inl ⟨_,rfl,(aok _ _).mono ?_⟩;rintro _ _ ⟨⟨n4,rfl⟩,rfl⟩;refine .inl ⟨_,rfl,aO λw3 r3 s3 z3=>?_⟩;refine(show an Rq #[.slice (some ⟨w2.drew.heap.size,0,none⟩) 2 2] w3 (λe w'=>(∃n:Int,e=.returned (.int .i64 n))/\w'=w3)from ?_).mono ?_
 .apply anf
  refine⟨λk w4=>0<=k/\k<=2/\w4=w3,λk _=>(2-k).toNat,⟨by decide,by decide,rfl⟩,?_⟩;rintro k _ w4 ⟨h1,h2,rfl⟩;refine ax (λhk=>?_) (λ_=>⟨⟨_,rfl⟩,rfl⟩);have hk:k<2:=by simpa using hk
  have e:k=0\/k=1:=by omega
  have hv:∃v:Int,w4.cell? ((Addr.mk w2.drew.heap.size 0 none).add (k.toNat*1))=some (.int .i64 v):=by
   rw[bM];rcases e with rfl|rfl
   .exact⟨_,r3.ai rfl⟩
   .exact⟨_,r3.ai rfl⟩
  obtain⟨v,hv⟩:=hv;refine⟨h1,by simpa using hk,v,hv,ax (λ_=>⟨⟨_,rfl⟩,rfl⟩) (λ_=>?_)⟩;rw[wrap_i64 (by omega) (by omega)];refine⟨⟨by omega,by omega,rfl⟩,by dsimp only;omega⟩
 .rintro _ _ ⟨⟨n,rfl⟩,rfl⟩
  exact .inl ⟨_,rfl,⟨_,rfl⟩,sD.trans s3⟩
def aHG(l:List ag):List ag:=l.mergeSort λx y=>decide (x<=y)
def vM(l:List ag):(aHG l).length=l.length:=List.length_mergeSort l
def abU{B:Nat}{p:Option Addr}{c:Nat}{l:List ag}(h:aS w B bJ 1 (.slice p l.length c) l.length (strs l))(hl:l.length<=1000000):
  an OY #[.slice p l.length c] w λe w'=>e=.returned (.tuple #[])/\aS w' B bJ 1 (.slice p l.length c) l.length (strs (aHG l))/\Mod (λk=>(Value.slice p l.length c).ownBlock=some k) w w':=by
 by_cases h0:l.length=0
 .obtain rfl:=mC h0
  refine(Tryz.slices_Sort_string_none p c w).mono ?_;rintro _ _ ⟨rfl,rfl⟩;exact⟨rfl,by simpa[aHG]using h,Mod.refl _ _⟩
 .obtain⟨g,cap,cur,hv,hb,⟨fz,hr,hf⟩,hc,hsz,ht⟩:=h.row (by omega)
  injection hv with e1 e2 e3;subst e1 e3;have hcap:c<=maxLen:=by
   rcases h.2 with⟨e,_⟩|⟨g',cap',cur',e,_,_,_,hm,_⟩
   .cases e
   .injection e with e1 e2 e3;omega
  rw[aHA]at ht hsz;have hH:Sort.Holds Go.Proofs.encStr w g 0 l.toArray:=by
   intro j hj;have hj':j<l.length:=by simpa using hj
   have h1:cur.toList[j]?=(strs l)[j]?:=by rw[<-ht,XE hj']
   refine⟨?_,?_⟩
   .have:=(show Row w g bJ cur from⟨fz,hr,hf⟩).cell j
    rw[cL,this,<-JA,h1];simp[strs,hj',Go.Proofs.encStr]
   .rw[cL]
    exact(show Row w g bJ cur from⟨fz,hr,hf⟩).frozen (by omega)
  have:=Tryz.slices_Sort_string g 0 c l w hH (aIf.1 hr).1 (by omega);refine this.mono ?_;rintro _ w' ⟨rfl,n,os,rfl⟩;have hg:=Go.grownBy_sorted (w:=w) (g:=g) (n:=n) (os:=os) (aHG l).toArray;refine⟨rfl,⟨by simp[KS,vM],.inr ⟨g,c,_,rfl,hb,⟨fz,Go.heap_sorted _ hr,?_⟩,hc,hcap,by simp[Sort.putCells,hsz],?_⟩⟩,(Mod.refl _ _).grown hg λk hk=>.inl hk⟩
  .simpa[HH,Sort.putCells]using hf
  .have h2:=Go.take_putCells cur (aHG l) (by rw[vM];omega)
   rw[vM]at h2;rw[aHA];exact h2
def asN{gm:Nat}{l:List ag}(hm:dH w gm (aH4 l)):an OI #[.map (some gm)] w λe w'=>∃c0,e=.returned (.func (.func Fp) #[] ⟨[.pointer (some ⟨c0,0,none⟩)]⟩)/\Row w' c0 QB ⟨[.map (some gm)]⟩/\Still w w':=by apply aja;exact aO λw1 r1 s1 z1=>⟨_,rfl,r1,s1⟩
def Z5{f:FuncId}{cap:List Value}{l:List ag}{D:Nat->Prop}(hf:cY aL f=true)(hs:Hx f cap w (λl'=>l'.Perm l) D)(hD:∀i,D i->i<w.heap.size)(hl:l.length<=1000000):
  an JC #[.func (.func f) #[] ⟨cap⟩] w λe w'=>∃l' p c,l'.Perm l/\e=.returned (.slice p l'.length c)/\aS w' w.heap.size bJ 1 (.slice p l'.length c) l'.length (strs (aHG l'))/\Still w w':=by
 apply ajT;refine(show an Fv #[.func (.func f) #[] ⟨cap⟩] w (λe w'=>∃l' p c,l'.Perm l/\e=.returned (.slice p l'.length c)/\aS w' w.heap.size bJ 1 (.slice p l'.length c) l'.length (strs l')/\Still w w')from ?_).mono ?_
 .apply XA
  refine(Za hf hs hD).mono ?_;rintro _ w1 ⟨l',p,c,hp,rfl,ho,hst⟩;exact .inl ⟨_,_,_,rfl,l',p,c,hp,rfl,ho,hst⟩
 .rintro _ w1 ⟨l',p,c,hp,rfl,ho,hst⟩
  refine .inl ⟨_,_,_,rfl,(abU ho (by rw[hp.length_eq];exact hl)).mono ?_⟩;rintro _ w2 ⟨rfl,ie,m2⟩;exact .inl ⟨rfl,l',p,c,hp,rfl,ie,hst.own ho (aR _) m2⟩
abbrev II:TypeId:=321
def qu(l:List (ag×Bool×ag)):List Value:=l.flatMap aHZ
def aI2(x:ag×Bool×ag):(aHZ x).length=3:=rfl
def adY(x:ag×Bool×ag):∀u∈aHZ x,u.oneCell'=true:=by intro u hu;simp[aHZ]at hu;rcases hu with rfl|rfl|rfl<;>rfl
def aH9(w:World)(g n c:Nat):Prop:=∃l:List (ag×Bool×ag),l.length=n/\aS w 0 II 3 (.slice (some ⟨g,0,none⟩) n c) n (qu l)
def aH9.cell{g n c:Nat}(h:aH9 w g n c){j:Nat}(hj:j<n):∃x:ag×Bool×ag,w.cell? ⟨g,j*3,none⟩=some (.string (S x.1))/\w.cell? ⟨g,j*3+1,none⟩=some (.bool x.2.1)/\w.cell? ⟨g,j*3+2,none⟩=some (.string (S x.2.2)):=by
 obtain⟨l,rfl,ho⟩:=h;have hx:l[j]?=some l[j]:=iy hj;refine⟨l[j],?_,?_,?_⟩
 .have:=DN (f:=aHZ) aI2 hx 0 (by decide)
  exact ho.cells rfl (j*3+0) _ (by rw[qu,this];rfl)
 .have:=DN (f:=aHZ) aI2 hx 1 (by decide)
  exact ho.cells rfl (j*3+1) _ (by rw[qu,this];rfl)
 .have:=DN (f:=aHZ) aI2 hx 2 (by decide)
  exact ho.cells rfl (j*3+2) _ (by rw[qu,this];rfl)
def aH9.mod{w':World}{S:Nat->Prop}{g n c:Nat}(h:aH9 w g n c)(hm:Mod S w w')(hg:¬S g):aH9 w' g n c:=by obtain⟨l,h1,h2⟩:=h;exact⟨l,h1,h2.mod hm λk hk=>by cases hk;exact hg⟩
def acS(cs:List Value):∀(o:Nat) (vs:List Value),o+vs.length<=cs.length->fF cs o vs=cs.take o++vs++cs.drop (o+vs.length):=by
 intro o vs
 induction vs generalizing cs o with
 |nil=>intro _;simp[fF]
 |cons v vs ih=>
  intro h;simp only[a_]at h;rw[fF,ih (cs.set o v) (o+1) (by simp;omega)];apply qO;intro j;simp only[JD,aJ1,Dg,eZ,aHb,Dl,a_,zG,P0]
  grind
def ave{l:List (ag×Bool×ag)}{j:Nat}{x:ag×Bool×ag}(hj:j<l.length):qu (l.set j x)=(qu l).take (j*3)++aHZ x++(qu l).drop (j*3+3):=by
 induction l generalizing j with
 |nil=>simp at hj
 |cons a r ih=>
  cases j with
  |zero=>simp[qu,aHZ]
  |succ j=>
   have h:=ih (j:=j) (by simpa using hj);have e1:(j+1)*3=3+j*3:=by omega
   simp only[qu,List.set_cons_succ,aIj]at h⊢;rw[h,e1];have e2:∀(t:List Value) (k:Nat),(aHZ a++t).take (3+k)=aHZ a++t.take k:=λt k=>by rw[List.take_append,aI2,show 3+k-3=k by omega,vD (by rw[aI2];omega)]
   have e3:∀(t:List Value) (k:Nat),(aHZ a++t).drop (3+k)=t.drop k:=λt k=>by rw[List.drop_append,aI2];simp[aHZ]
   rw[e2,FX,e3];simp
def aH9.store{g n c:Nat}(h:aH9 w g n c){j:Nat}(hj:j<n)(x:ag×Bool×ag){K:World->Prop}(hK:∀w',aH9 w' g n c->Mod (λk=>k=g) w w'->w'.heap.size=w.heap.size->K w'):cA (Addr.mk g (j*3) none) K 0 (aHZ x) w:=by
 obtain⟨l,rfl,ho⟩:=h;have hpos:0<l.length:=by omega
 obtain⟨g',cap,cur,hv,hb,hr,hc,hsz,ht⟩:=ho.row hpos;injection hv with e1 e2 e3;injection e1 with e1;injection e1 with e1;subst e1 e3;have hcap:c<=maxLen:=by
  rcases ho.2 with⟨e,_⟩|⟨g2,cap',cur',e,_,_,_,hm,_⟩
  .cases e
  .injection e with e1 e2 e3;omega
 have hr':Row w g II ⟨cur.toList⟩:=by simpa using hr
 have hlen:cur.toList.length=c*3:=by simpa using hsz
 refine dL (g:=g) (o:=j*3) hr' (by rw[aI2,hlen];omega) (adY x) λw' r' m' z'=>hK w' ⟨l.set j x,by simp,?_⟩ m' z';rw[acS _ _ _ (by rw[aI2,hlen];omega),aI2]at r';refine⟨by rw[qu,acD aI2];simp,.inr ⟨g,c,_,rfl,hb,r',hc,hcap,?_,?_⟩⟩
 .simp only[vG,aHb,eZ,j_,aI2,hlen]
  omega
 .rw[ave hj,<-ht]
  have e5:l.length*3=j*3+3+(l.length*3-(j*3+3)):=by omega
  apply qO;intro i;simp only[JD,aJ1,Dg,eZ,aHb,aI2,hlen]
  grind
def asO{fn:FuncId}{K:FuncId->List Value->List Value->Prop}(h:K fn [] []):gj (.func (.func fn) #[] #[]) K:=h
def aol:cY aL aJ8=true:=by kernel_rfl
def aq1{g n c:Nat}(h:aH9 w g n c)(hn:n<=12):an Jn #[.slice (some ⟨g,0,none⟩) n c,.int .i64 0,.int .i64 (n:Int),.func (.func aJ8) #[] #[]] w λe w'=>e=.returned (.tuple #[])/\aH9 w' g n c/\Mod (λk=>k=g) w w':=by
 apply Xm;have e0:i64.wrap ((0:Int)+1)=1:=by decide
 unfold OJ;rw[e0];refine⟨λi w1=>1<=i/\i<=13/\aH9 w1 g n c/\Mod (λk=>k=g) w w1,λi _=>(14-i).toNat,⟨by decide,by decide,h,Mod.refl _ _⟩,?_⟩;rintro i _ w1 ⟨i1,i2,h1,m1⟩;refine ax (λhi=>?_) (λ_=>⟨rfl,h1,m1⟩);have hi:i<(n:Int):=by simpa using hi
 refine⟨λj w2=>0<=j/\j<=i/\aH9 w2 g n c/\Mod (λk=>k=g) w w2,λj _=>j.toNat,⟨by omega,by omega,h1,m1⟩,?_⟩;rintro j _ w2 ⟨j1,j2,h2,m2⟩;have hD:=h2.mod (S:=λ_=>False) (Still.refl w2).cG (λh=>h);have mD:=m2.drew;have next:∀w3,aH9 w3 g n c->Mod (λk=>k=g) w w3->(1<=i64.wrap (i+1)/\i64.wrap (i+1)<=13/\aH9 w3 g n c/\Mod (λk=>k=g) w w3)/\(14-i64.wrap (i+1)).toNat<(14-i).toNat:=λw3 h3 m3=>by rw[wrap_i64 (by omega) (by omega)];exact⟨⟨by omega,by omega,h3,m3⟩,by omega⟩
 refine⟨λwq=>aH9 wq g n c/\wq=w2.drew,⟨hD,rfl⟩,ax (λhj=>?_) (λ_=>next _ hD mD)⟩;have hj:0<j:=by simpa using hj
 have ew:i64.wrap (j-1)=j-1:=wrap_i64 (by omega) (by omega);rw[ew];have ej:((j.toNat:Nat):Int)=j:=by omega
 have ej1:(((j-1).toNat:Nat):Int)=j-1:=by omega
 obtain⟨x,x1,x2,x3⟩:=hD.cell (j:=j.toNat) (by omega);obtain⟨y,y1,y2,y3⟩:=hD.cell (j:=(j-1).toNat) (by omega);refine⟨by omega,by omega,x.1,x.2.1,x.2.2,?_⟩;refine⟨?_,?_,?_,by omega,by omega,y.1,y.2.1,y.2.2,?_,?_,?_,?_⟩
 .rintro wq ⟨_,rfl⟩;rw[bM,cL];exact x1
 .rintro wq ⟨_,rfl⟩;rw[bM,cL];exact x2
 .rintro wq ⟨_,rfl⟩;rw[bM,cL];exact x3
 .rintro wq ⟨_,rfl⟩;rw[bM,cL];exact y1
 .rintro wq ⟨_,rfl⟩;rw[bM,cL];exact y2
 .rintro wq ⟨_,rfl⟩;rw[bM,cL];exact y3
 refine asO (ax (λ_=>?_) (λh=>by rw[aol]at h;cases h));refine(asM x y).mono ?_;rintro _ w3 ⟨⟨r,rfl⟩,s3⟩;have h3:=hD.mod s3 (λh=>h);have m3:Mod (λk=>k=g) w w3:=Mod.trans mD s3 (λ_ h=>h) (λ_ _ h=>h.elim);refine .inl ⟨_,rfl,ax (λ_=>?_) (λ_=>next _ h3 m3)⟩;have h4:=h3.mod (S:=λ_=>False) (Still.refl w3).cG (λh=>h);have m4:=m3.drew;obtain⟨x,x1,x2,x3⟩:=h4.cell (j:=(j-1).toNat) (by omega);obtain⟨y,y1,y2,y3⟩:=h4.cell (j:=j.toNat) (by omega);refine⟨λwq=>aH9 wq g n c/\wq=w3.drew,⟨h4,rfl⟩,by omega,by omega,x.1,x.2.1,x.2.2,?_,?_,?_,by omega,by omega,y.1,y.2.1,y.2.2,?_,?_,?_,by omega,by omega,?_⟩
 .rintro wq ⟨_,rfl⟩;rw[bM,cL];exact x1
 .rintro wq ⟨_,rfl⟩;rw[bM,cL];exact x2
 .rintro wq ⟨_,rfl⟩;rw[bM,cL];exact x3
 .rintro wq ⟨_,rfl⟩;rw[bM,cL];exact y1
 .rintro wq ⟨_,rfl⟩;rw[bM,cL];exact y2
 .rintro wq ⟨_,rfl⟩;rw[bM,cL];exact y3
 simp only[aaj,bM,cL];refine aH9.store h4 (j:=j.toNat) (by omega) x λw5 h5 m5 z5=>⟨by omega,by omega,?_⟩;refine aH9.store h5 (j:=(j-1).toNat) (by omega) y λw6 h6 m6 z6=>?_;exact⟨⟨by omega,by omega,h6,Mod.trans (Mod.trans m4 m5 (λ_ h=>h) (λ_ _ h=>h)) m6 (λ_ h=>h) (λ_ _ h=>h)⟩,by omega⟩
def apD{p:Option Addr}{c:Nat}:an Jn #[.slice p 0 c,.int .i64 0,.int .i64 0,.func (.func aJ8) #[] #[]] w λe w'=>e=.returned (.tuple #[])/\w'=w:=by
 apply Xm;have e0:i64.wrap ((0:Int)+1)=1:=by decide
 unfold OJ;rw[e0];refine⟨λi w1=>i=1/\w1=w,λ_ _=>0,⟨rfl,rfl⟩,?_⟩;rintro i _ w1 ⟨rfl,rfl⟩;exact ax (λh=>by simp at h) (λ_=>⟨rfl,rfl⟩)
def aom{B:Nat}{p:Option Addr}{c:Nat}{l:List (ag×Bool×ag)}(h:aS w B II 3 (.slice p l.length c) l.length (qu l))(hn:l.length<=12):an OK #[.slice p l.length c,.func (.func aJ8) #[] #[]] w λe w'=>e=.returned (.tuple #[])/\Mod (λk=>(Value.slice p l.length c).ownBlock=some k) w w':=by
 apply ajb;have ew:u64.wrap (((l.length:Nat):Int))=((l.length:Nat):Int):=by
  have:∀k,k<=12->u64.wrap ((k:Nat):Int)=((k:Nat):Int):=by decide
  exact this _ hn
 unfold Xn;rw[ew];refine(avd l.length (by omega)).mono ?_;rintro _ w1 ⟨⟨lim,rfl⟩,e⟩;subst e;refine .inl ⟨_,rfl,?_⟩;refine(show an ON #[.slice p l.length c,.int .i64 0,.int .i64 ((l.length:Nat):Int),.int .i64 lim,.func (.func aJ8) #[] #[]] w1 (λe w'=>e=.returned (.tuple #[])/\Mod (λk=>(Value.slice p l.length c).ownBlock=some k) w1 w')from ?_).mono ?_
 .apply ajf
  refine⟨λa b _ _ _ w2=>a=0/\b=((l.length:Nat):Int)/\w2=w1,λ_ _ _ _ _ _=>0,⟨rfl,rfl,rfl⟩,?_⟩;rintro a b lm _ _ _ w2 ⟨rfl,rfl,rfl⟩;have e1:i64.wrap (((l.length:Nat):Int)-0)=((l.length:Nat):Int):=by rw[Int.sub_zero];exact wrap_i64 (by omega) (by omega)
  rw[e1];refine ax (λ_=>?_) (λhf=>absurd (aZ hf) (by simp;omega));rcases h.2 with⟨hv,h0⟩|⟨g,cap,cur,hv,hb,_⟩
  .injection hv with e1 e2 e3
   rw[h0];refine apD.mono ?_;rintro _ _ ⟨rfl,rfl⟩;exact .inl ⟨rfl,rfl,Mod.refl _ _⟩
  .injection hv with e1 e2 e3
   subst e1;refine(aq1 (w:=w2) ⟨l,rfl,h.aJO⟩ hn).mono ?_;rintro _ w3 ⟨rfl,_,m3⟩;exact .inl ⟨rfl,rfl,m3.weaken λk hk=>by rw[hk];rfl⟩
 .rintro _ w3 ⟨rfl,m3⟩
  exact .inl ⟨rfl,rfl,m3⟩
def asP(l:List (ag×Bool×ag))(x:ag×Bool×ag):qu (l++[x])=qu l++aHZ x:=by simp[qu]
def wH(w:World)(B:Nat)(p:Option Addr)(n c:Nat):Prop:=∃l:List (ag×Bool×ag),l.length=n/\aS w B II 3 (.slice p n c) n (qu l)
def wH.push{B:Nat}{p:Option Addr}{n c:Nat}(h:wH w B p n c)(hB:B<=w.heap.size)(hn:n<=100){q:Addr}(x:ag×Bool×ag)(hq:∀j u,(aHZ x)[j]?=some u->w.cell? (q.add j)=some u){K:Option Addr->Nat->World->Prop}
  (hK:∀p' c' w',wH w' B p' (n+1) c'->Mod (λk=>(Value.slice p n c).ownBlock=some k) w w'->(∀k,(Value.slice p' (n+1) c').ownBlock=some k->B<=k)->K p' c' w'):eW w II 3 40 p n c (some q) 1 K:=by
 obtain⟨l,rfl,ho⟩:=h;refine rT ho hB (aHZ x) rfl (adY x) (λ_=>⟨q,rfl,hq⟩) (by omega) (by omega) λp' c' w' o' m' bk=>hK p' c' w' ⟨l++[x],by simp,by rw[asP];exact o'⟩ m' λk hk=>(o'.lt k hk).1
def wH.mod{w':World}{S:Nat->Prop}{B:Nat}{p:Option Addr}{n c:Nat}(h:wH w B p n c)(hm:Mod S w w')(hS:∀k,B<=k->k<w.heap.size->¬S k):wH w' B p n c:=by obtain⟨l,h1,h2⟩:=h;exact⟨l,h1,h2.mod hm λk hk=>hS k (h2.lt k hk).1 (h2.lt k hk).2⟩
def wH.low{B:Nat}{p:Option Addr}{n c:Nat}(h:wH w B p n c){k:Nat}(hk:(Value.slice p n c).ownBlock=some k):B<=k/\k<w.heap.size:=by obtain⟨l,h1,h2⟩:=h;exact h2.lt k hk
def an2:cY aL Fp=true:=by kernel_rfl
def acT(he:Env w0)(h0:Still w0 w){a g n:Nat}{t:Tb}{T:Tree}(h:cv w w0.heap.size a g (some t) n T)(hn:n<=12):
  an FK #[.pointer (some ⟨a,0,none⟩)] w (λe w'=>(∃p1 n1 c1 p2 n2 c2,e=.returned (.tuple #[.slice p1 n1 c1,.slice p2 n2 c2]))/\cv w' w0.heap.size a g none 0 T/\Mod (λk=>k=a) w w'):=by
 apply alA;refine⟨_,h.top.ai rfl,ax (λhb=>by cases hb) (λ_=>?_)⟩;have d:=h.qB t rfl;obtain⟨l,p1,p2,p3⟩:=d.rd;refine⟨_,h.top.ai rfl,_,rfl,d.top.ai rfl,?_⟩;obtain⟨ms,c,hg,hG⟩:=p1;have s1:Still w (w.alloc (.mapIter (some t.gr) c #[] c)):=(Mod.refl _ _).alloc _;have i1:=pG.begin hg hG;have z1:(w.alloc (.mapIter (some t.gr) c #[] c)).heap.size=w.heap.size+1:=World.size_alloc ..;refine⟨t.gr,ms,c,rfl,hg,?_⟩;generalize w.alloc (.mapIter (some t.gr) c #[] c)=w1 at*;refine⟨λrp rn rc w2=>∃rest,pG w2 w.heap.size t.gr (Ep l) rest/\rn+rest.length<=l.length/\wH w2 (w.heap.size+1) rp rn rc/\Still w w2,λ_ _ _ w2=>pz w2 w.heap.size,⟨Ep l,i1,by simp[Ep],⟨[],rfl,aS.nil _ _ _ _⟩,s1⟩,?_⟩;rintro rp rn rc _ w2 ⟨rest,i2,az8,t2,s2⟩;have gU:w.heap.size+1<=w2.heap.size:=by obtain⟨_,_,_,_,_,q,_⟩:=i2;exact rV q
 rcases SN (P:=aL) i2 with⟨rfl,hr⟩|⟨kk,x,rest',w3,qj,hmem,hr,hen,i3,m3,z3⟩
 .refine .inl ⟨w2,hr,?_⟩
  obtain⟨lt,hlt,ho⟩:=t2;subst hlt;refine(aom ho (by simp at az8;omega)).mono ?_;rintro _ w3 ⟨rfl,m3⟩;have s3:Still w w3:=Mod.trans s2 m3 (λ_ h=>h) (λi hi hk=>by have:=(ho.lt i hk).1;omega);have h3:=h.still s3;have d3:=h3.qB t rfl;refine .inl ⟨rfl,_,h3.top.ai rfl,_,rfl,d3.top.ai rfl,?_⟩;obtain⟨lw,q1,q2,q3⟩:=d3.wr;refine(asN q1).mono ?_;rintro _ w4 ⟨c0,rfl,rc0,s4⟩;refine .inl ⟨_,rfl,rfl,?_⟩;have q4:=q1.still s4;refine(Z5 an2 (aqB (by omega) q4 rc0) (λi hi=>?_) (by omega)).mono ?_
  .rcases hi with rfl|rfl
   .exact q4.lt
   .exact rc0.lt
  rintro _ w5 ⟨l',sp,sc,hp,rfl,rE,s5⟩;have aH6:=(s3.trans s4).trans s5;refine .inl ⟨_,_,_,rfl,?_⟩;refine⟨λwp wn wc x w6=>0<=x/\x<=(l'.length:Nat)/\x=(wn:Int)/\wH w6 w5.heap.size wp wn wc/\Still w5 w6,λ_ _ _ x _=>(l'.length-x).toNat,⟨by decide,by omega,rfl,⟨[],rfl,aS.nil _ _ _ _⟩,Still.refl _⟩,?_⟩;rintro wp wn wc x _ w6 ⟨x1,x2,x3,t6,s6⟩;have nG:=aH6.trans s6;have h6:=h.still nG;have hlen:l'.length<=12:=by have:=hp.length_eq;omega
  refine ax (λhx=>?_) (λ_=>?_)
  .have hx:x<(l'.length:Nat):=by simpa using hx
   have hj:x.toNat<(aHG l').length:=by rw[vM];omega
   have cell:w6.cell? ((Addr.mk 0 0 none).add 0)=w6.cell? ((Addr.mk 0 0 none).add 0):=rfl;have aJT:=rE.still s6;obtain⟨gs,cap,cur,hv,_⟩:=aJT.row (by omega);injection hv with e1 e2 e3;subst e1;have hy:(strs (aHG l'))[x.toNat]?=some (.string (S (aHG l')[x.toNat])):=by simp[strs,hj]
   have hcell:w6.cell? ((Addr.mk gs 0 none).add (x.toNat*1))=some (.string (S (aHG l')[x.toNat])):=by rw[bM,cL,aHA];exact aJT.cells rfl x.toNat _ hy
   have hmem:(aHG l')[x.toNat]∈lw:=by have:(aHG l')[x.toNat]∈aHG l':=kL hj;have:(aHG l')[x.toNat]∈l':=(De l' _).mem_iff.1 this;exact hp.mem_iff.1 this
   have hlp:=q2 _ hmem;refine⟨x1,hx,_,hcell,_,rfl,h6.top.ai rfl,(SV h6.now h6.cB.1 hlp).mono ?_⟩;rintro _ w7 ⟨rfl,s7⟩;refine .inl ⟨_,_,_,rfl,(Z3 (he.still (h0.trans (nG.trans s7))) (T9 h6.cB.1 _) (Tz h6.cB _)).mono ?_⟩;rintro _ w8 ⟨⟨s,rfl⟩,s8⟩;refine .inl ⟨_,rfl,?_⟩;refine aO λw9 r9 s9 z9=>?_;have IJ:=(s7.trans s8).trans s9;have hz:=s6.size;have A3:=IJ.size;refine(t6.mod IJ λ_ _ _ h=>h).push (by omega) (by omega) ((aHG l')[x.toNat],false,s) (λj u hu=>?_) λp' c' aP t10 m10 lo=>?_
   .rw[bM,cL]
    exact r9.ai hu
   .rw[wrap_i64 (by omega) (by omega)]
    exact⟨⟨by omega,by omega,by omega,t10,Mod.trans (s6.trans IJ) m10 (λ_ h=>h) (λi hi hk=>by have:=(t6.low hk).1;omega)⟩,by dsimp only;omega⟩
  .refine bF (g:=a) (o:=1) h6.top λw7 r7 m7 z7=>?_
   exact⟨⟨_,_,_,_,_,_,rfl⟩,⟨r7,h6.now.mod m7 (λe=>h6.now.c7 h6.top e),h6.cB,h6.low,λt ht=>(by cases ht)⟩,Mod.trans nG m7 (λ_ h=>h.elim) (λ_ _ h=>h)⟩
 .obtain⟨xx,hx,e⟩:=dM.1 hmem
  obtain⟨rfl,rfl⟩:=aJB e;refine .inr ⟨_,_,w3,hr,xx.1.1,xx.1.2,xx.2,hen,?_⟩;have h3:Still w w3:=Mod.trans s2 m3 (λ_ h=>h) (λi hi e=>by omega);have t3:=t2.mod m3 λk h1 _ e=>by omega
  refine aO λw4 r4 s4 z4=>bF (g:=w3.heap.size) (o:=0) r4 λw5 r5 m5 z5=>?_;refine⟨_,r5.ai rfl,_,r5.ai rfl,?_⟩;have IK:Still w3 w5:=s4.box (aR _) m5;refine aO λw6 r6 s6 z6=>?_;have aJU:=IK.trans s6;have A4:=aJU.size;refine(t3.mod aJU λ_ _ _ h=>h).push (by omega) (by have:=qj.length_eq;simp at this;omega) (xx.1.1,xx.1.2,xx.2) (λj u hu=>?_) λp' c' w7 t7 m7 lo=>?_
  .rw[bM,cL]
   exact r6.ai hu
  .have i7:=(i3.mod aJU (λh=>h) (λh=>h)).mod m7 (λe=>by have:=(t3.low e).1;omega) (λe=>by
    have:=(t3.low e).1;have:=rV hg;omega)
   have hpl:=qj.length_eq;simp only[a_]at hpl;refine⟨⟨rest',i7,by omega,t7,Mod.trans (h3.trans aJU) m7 (λ_ h=>h) (λi hi hk=>by have:=(t3.low hk).1;omega)⟩,?_⟩;show pz w7 w.heap.size<pz w2 w.heap.size
   rw[DC i7,DC i2,hpl];exact lB _
end Go.Proofs.YtihaaoehhgmphaaGreatDoor
namespace Go.Proofs.YtihaaoehhgmphaaGreatDoor.L
open IntKind Go.RowKit Vc
variable{w:World}
def Eu(r:Int):Bool:=decide ((97<=r/\r<=122)\/(65<=r/\r<=90)\/r=95)
def Cj(r:Int):Bool:=decide (48<=r/\r<=57)
def Ee(a c:UInt8):decide (a<=c)=decide ((a.toNat:Int)<=(c.toNat:Int)):=by apply aIU.2;rw[UInt8.le_iff_toNat_le];omega
def abV(c:UInt8):isLet c=Eu (c.toNat:Int):=by unfold isLet Eu;rw[Ee,Ee,Ee,Ee,show(c==95)=decide ((c.toNat:Int)=95) by rw[aIV];simp[<-J6];omega];rw[aIV];simp;omega
def abW(c:UInt8):aIA c=Cj (c.toNat:Int):=by unfold aIA Cj;rw[Ee,Ee,aIV];simp
def nt{p:Prop}[Decidable p](h:(!decide p)=true):¬p:=by simpa using h
def nf{p:Prop}[Decidable p](h:(!decide p)=false):p:=by simpa using h
def anl(r:Int):an Kv #[.int .i32 r] w (λe w'=>e=.returned (.bool (Eu r))/\w'=w):=by
 apply YA;unfold Eu
 repeat' refine ax (λh=>?_) (λh=>?_)
 all_goals simp only[nk,zy]at*
 all_goals refine⟨fT (λb=>Ending.returned (.bool b)) ?_,(by first|trivial|rfl)⟩
 all_goals first|exact(jc (by omega)).symm|exact aIU.2 (by omega)
def anC(r:Int):an KB #[.int .i32 r] w (λe w'=>e=.returned (.bool (Cj r))/\w'=w):=by
 apply YL;unfold Cj
 repeat' refine ax (λh=>?_) (λh=>?_)
 all_goals simp only[nk,zy]at*
 all_goals refine⟨fT (λb=>Ending.returned (.bool b)) ?_,(by first|trivial|rfl)⟩
 all_goals first|exact(fY (by omega)).symm|exact aIU.2 (by omega)
def Zb{p:UInt8->Bool}:∀{l:ag} {k:Nat} (hk:k<l.length),k<=(l.takeWhile p).length->(p l[k]=true->k+1<=(l.takeWhile p).length)/\(p l[k]=false->(l.takeWhile p).length=k)
 |a::l,0,_,_=>by
  refine⟨λh=>?_,λh=>?_⟩
  .have h:p a=true:=h
   rw[JL,aN h];simp
  .have h:p a=false:=h
   rw[JL,aH (by rw[h];decide)];rfl
 |a::l,k+1,hk,h=>by
  rw[JL]at h⊢
  by_cases ha:p a=true
  .rw[aN ha]at h⊢
   simp only[a_]at h hk⊢;have:=Zb (p:=p) (l:=l) (k:=k) (by omega) (by omega);refine⟨λhp=>?_,λhp=>?_⟩
   .have:=this.1 hp;omega
   .have:=this.2 hp;omega
  .rw[aH ha]at h
   simp at h
def aq2{s:ag}{k:Nat}(hk:k<s.length)(h:k<=bT s):((isLet s[k]||(decide (0<k)&&aIA s[k]))=true->k+1<=bT s)/\((isLet s[k]||(decide (0<k)&&aIA s[k]))=false->bT s=k):=by
 cases s with
 |nil=>simp at hk
 |cons c r=>
  simp only[bT]at h⊢;cases k with
  |zero=>
   have e:(c::r)[0]=c:=rfl;rw[e];simp only[Bq,Q6,Kg,Du];refine⟨λhc=>?_,λhc=>?_⟩
   .rw[aN hc];omega
   .rw[aH (by rw[hc];decide)]
  |succ k=>
   by_cases hc:isLet c=true
   .rw[aN hc]at h⊢
    simp only[a_]at hk;have:=Zb (p:=Us) (l:=r) (k:=k) (by omega) (by omega);have e:(c::r)[k+1]=r[k]'(by omega):=rfl;rw[e];simp only[Nat.zero_lt_succ,decide_true,Br];refine⟨λhp=>?_,λhp=>?_⟩
    .have:=this.1 hp;omega
    .have:=this.2 hp;omega
   .rw[aH hc]at h
    omega
def awQ{b:ag}{k:Nat}(hk:k<b.length)(h:b[k].toNat<128):Utf8.decode ⟨⟨b⟩⟩ k=(b[k].toNat,1):=decode_ascii ⟨⟨b⟩⟩ k hk h
def avf{b:ag}{k:Nat}(hk:k<b.length)(h:128<=b[k].toNat):128<=(Utf8.decode ⟨⟨b⟩⟩ k).1:=by
 have e:(S b).get! (k+0)=b[k]:=by show(S b).get! k=_;have hs:k<(S b).size:=hk;simp[ByteArray.get!,iy hk]
 simp only[Utf8.decode,e];rw[aH (by omega)];unfold Utf8.runeError
 repeat' split
 all_goals simp_all
 all_goals omega
def awR{b:ag}{k:Nat}(hk:k<b.length):Eu ((Utf8.decode ⟨⟨b⟩⟩ k).1:Int)=isLet b[k]/\Cj ((Utf8.decode ⟨⟨b⟩⟩ k).1:Int)=aIA b[k]/\((isLet b[k]||aIA b[k])=true->(Utf8.decode ⟨⟨b⟩⟩ k).2=1):=by
 rcases w_ b[k].toNat 128 with hlt|hge
 .rw[awQ hk hlt,abV,abW]
  exact⟨rfl,rfl,λ_=>rfl⟩
 .have hh:=avf hk hge
  rw[abV,abW];unfold Eu Cj;refine⟨?_,?_,λh=>?_⟩
  .rw[fY (by omega),fY (by omega)]
  .rw[fY (by omega),fY (by omega)]
  .exfalso
   simp at h;omega
def avg(w:World)(o:Obj):(w.alloc o).heap[w.heap.size]?=some o:=heap_alloc_new w _
def aq3{w1:World}{g:Nat}(h:Still w w1)(hg:w.heap.size<=g)(s:ByteArray)(n:Nat):Still w (w1.iterAt g s n):=
 ⟨h.os,h.tape,h.output,by rw[Lib.iterAt_size];exact h.size,λk hk hn=>(Lib.iterAt_other _ _ _ _ _ (by omega)).trans (h.block k hk hn)⟩
def Sp(s:ag)(hl:s.length<1000000):an aJ_ #[.string (S s)] w (λe w'=>e=.returned (.string (S (s.take (bT s))))/\Still w w'):=by
 apply YX;refine mg ?_;refine⟨λw1=>∃k:Nat,w1.heap[w.heap.size]?=some (.stringIter ⟨⟨s⟩⟩ k)/\k<=bT s/\Still w w1,λw1=>match w1.heap[w.heap.size]? with
  |some (.stringIter _ k)=>s.length-k
  |_=>0,⟨0,avg _ _,dU _,(Mod.refl _ _).alloc _⟩,?_⟩
 rintro _ w2 ⟨k,hk,hkn,hs2⟩;have hnl:=vP s;refine⟨rfl,s,k,hk,ax (λhx=>?_) (λhx=>?_)⟩;rotate_left
 .have hx:=aZ hx
  rw[vD (by omega)];exact⟨rfl,hs2⟩
 have hx:=aQ hx;obtain⟨r1,r2,r3⟩:=awR hx;obtain⟨n1,n2⟩:=aq2 hx hkn;refine mg ?_;have hs3:Still w (w2.iterAt w.heap.size ⟨⟨s⟩⟩ (k+(Utf8.decode ⟨⟨s⟩⟩ k).2)):=aq3 hs2 (aR _) _ _;have aIs:(w2.iterAt w.heap.size ⟨⟨s⟩⟩ (k+(Utf8.decode ⟨⟨s⟩⟩ k).2)).heap[w.heap.size]?=some (.stringIter ⟨⟨s⟩⟩ (k+(Utf8.decode ⟨⟨s⟩⟩ k).2)):=Lib.iterAt_heap _ _ _ _ _ hk;have on:(isLet s[k]||(decide (0<k)&&aIA s[k]))=true->∀w4,w4=w2.iterAt w.heap.size ⟨⟨s⟩⟩ (k+(Utf8.decode ⟨⟨s⟩⟩ k).2)->(∃k:Nat,w4.heap[w.heap.size]?=some (.stringIter ⟨⟨s⟩⟩ k)/\k<=bT s/\Still w w4)/\(match w4.heap[w.heap.size]? with
  |some (.stringIter _ k)=>s.length-k
  |_=>0)<(match w2.heap[w.heap.size]? with
  |some (.stringIter _ k)=>s.length-k
  |_=>0):=by
  rintro ho _ rfl;have h1:=r3 (by
   rw[QD]at ho⊢;rcases ho with ho|ho
   .exact .inl ho
   .rw[e_]at ho
    exact .inr ho.2)
  rw[h1]at aIs hs3⊢;refine⟨⟨k+1,aIs,n1 ho,hs3⟩,?_⟩;rw[aIs,hk];show s.length-(k+1)<s.length-k
  omega
 have off:(isLet s[k]||(decide (0<k)&&aIA s[k]))=false->∀w4,w4=w2.iterAt w.heap.size ⟨⟨s⟩⟩ (k+(Utf8.decode ⟨⟨s⟩⟩ k).2)->(Ending.returned (.string (S (s.take (Int.toNat (k:Int)))))=.returned (.string (S (s.take (bT s))))/\Still w w4):=by rintro ho _ rfl;rw[n2 ho,bW];exact⟨rfl,hs3⟩
 refine(anl _).mono ?_;rintro _ w4 ⟨rfl,rfl⟩;rw[r1];refine .inl ⟨_,rfl,ax (λh=>?_) (λh=>?_)⟩
 .have h:isLet s[k]=false:=by simpa using h
  refine ax (λh0=>?_) (λh0=>?_)
  .have h0:(k:Int)=0:=aQ h0
   refine⟨by omega,by omega,off ?_ _ rfl⟩;rw[h,fY (by omega)];rfl
  .have h0:(k:Int)≠0:=aZ h0
   refine(anC _).mono ?_;rintro _ w5 ⟨rfl,rfl⟩;rw[r2];refine .inl ⟨_,rfl,ax (λh5=>?_) (λh5=>?_)⟩
   .have h5:aIA s[k]=false:=by simpa using h5
    refine⟨by omega,by omega,off ?_ _ rfl⟩;rw[h,h5,Kh];rfl
   .have h5:aIA s[k]=true:=by simpa using h5
    exact on (by rw[h,h5,jc (by omega)];rfl) _ rfl
 .have h:isLet s[k]=true:=by simpa using h
  exact on (by rw[h];rfl) _ rfl
def take_nil{s:ag}{n:Nat}(h:n<=s.length):s.take n=[]↔n=0:=by refine⟨λe=>?_,λe=>by rw[e];rfl⟩;have:=fT List.length e;rw[eZ,cq]at this;omega
def avh{s:ag}{n:Nat}(h:n<=s.length):s.take n=s↔n=s.length:=by refine⟨λe=>?_,λe=>by rw[e,aH0]⟩;have:=fT List.length e;rw[eZ]at this;omega
def Z6(s:ag)(hl:s.length<1000000):an Bv #[.string (S s)] w (λe w'=>e=.returned (.bool (decide (s≠[]/\bT s=s.length)))/\Still w w'):=by
 apply YB;refine ax (λh=>?_) (λh=>?_)
 .have h:s≠[]:=by simpa using h
  refine(Sp s hl).mono ?_;rintro _ w1 ⟨rfl,hs1⟩;refine .inl ⟨_,rfl,?_,hs1⟩;congr 2;apply aIU.2;rw[avh (vP s)];exact⟨λe=>⟨h,e⟩,λe=>e.2⟩
 .have h:s=[]:=by simpa using h
  subst h;exact⟨rfl,Still.refl _⟩
def Lg:∀(l:ag) (c:UInt8),decide ((0:Int)<=Go.Lib.indexByte l c)=l.contains c
 |[],c=>rfl
 |b::r,c=>by
  have ih:=Lg r c;simp only[Go.Lib.indexByte,DA,Dh]
  by_cases h:b=c
  .subst h
   simp
  .have h2:¬c=b:=λe=>h e.symm
   rw[aH h];have h3:(c==b)=false:=by simpa using h2
   rw[h3,aJA,<-ih];split
   .rename_i he
    rw[he]
   .rename_i he
    have h4:∀(l:ag) (c:UInt8),-1<=Go.Lib.indexByte l c:=by
     intro l c
     induction l with
     |nil=>exact Int.le_refl (-1)
     |cons x l ih=>
      simp only[Go.Lib.indexByte];split
      .decide
      .split<;>omega
    have:=h4 r c;rw[jc (by omega),jc (by omega)]
def Rz(b:UInt8):(((b.toNat:Nat):Int)).toNat.toUInt8=b:=by rw[bW];simp
def index_spec(l:ag)(c:UInt8):an wZ #[.string (S l),.int .u8 (c.toNat:Int)] w (λe w'=>(∃n:Int,e=.returned (.int .i64 n)/\decide (0<=n)=l.contains c)/\w'=w):=by refine(Tryz.strings_IndexByte (S l) _ _).mono ?_;rintro _ w1 ⟨rfl,rfl⟩;rw[Rz];exact⟨⟨_,rfl,Lg l c⟩,rfl⟩
def KH(t s:ag):pf t s=t.isPrefixOf s:=by unfold pf;rw[aIV,nk,OW];refine⟨λh=>?_,λh=>⟨h.length_le,(List.prefix_iff_eq_take.1 h).symm⟩⟩;rw[<-h.2];exact List.take_prefix _ _
def Zc(s t:ag):an wY #[.string (S s),.string (S t)] w (λe w'=>e=.returned (.bool (pf t s))/\w'=w):=by refine(Tryz.strings_HasPrefix (S s) (S t) _).mono ?_;rintro _ w1 ⟨rfl,rfl⟩;rw[KH];exact⟨rfl,rfl⟩
abbrev Ev(x:Pt)(v:Value):Value:=.agg #[.int .i64 x.k,.bool x.q,.string (S x.t),.string (S x.n),.string (S x.o),v]
def _root_.Go.Proofs.YtihaaoehhgmphaaGreatDoor.aS.store{B:Nat}{e:TypeId}{sz n c g i:Nat}{xs:List Value}{u:Value}{K:World->Prop}(h:aS w B e sz (.slice (some ⟨g,0,none⟩) n c) n xs)(hi:i<n*sz)(hu:u.oneCell'=true)
  (hK:∀w',aS w' B e sz (.slice (some ⟨g,0,none⟩) n c) n (xs.set i u)->Mod (λk=>k=g) w w'->w'.heap.size=w.heap.size->K w'):cA ((Addr.mk g 0 none).add i) K 0 [u] w:=by
 obtain⟨h1,⟨he,hn⟩|⟨g',cap,cur,he,hB,hr,hc,hm,hs,ht⟩⟩:=h
 .cases he
 .injection he with e1 e2 e3
  injection e1 with e1;injection e1 with e1;subst e1 e3;rw[bM,cL];have hr':Row w g e ⟨cur.toList⟩:=hr;have hlen:cur.toList.length=c*sz:=by rw[JK];exact hs
  have hle:n*sz<=c*sz:=XW sz hc;refine dL hr' (by simp only[a_,cq];omega) (by simpa using hu) λw' r' m' z'=>hK w' ⟨by rw[zG];exact h1,.inr ⟨g,c,_,rfl,hB,r',hc,hm,?_,?_⟩⟩ m' z'
  .simp only[fF,vG,zG]
   exact hlen
  .simp only[fF]
   rw[<-ht,List.take_set]
def aHg.cells{F:Nat->Prop}{l:List Pt}{p:Option Addr}{n c:Nat}(h:aHg w F l (.slice p n c)):∃xs,Cs w F l xs/\At w p n xs:=by
 obtain⟨p',c',he,h2,h3⟩:=h;injection he with e1 e2 e3;subst e1 e2 e3
 by_cases hl:l=[]
 .subst hl
  exact⟨[],rfl,λh=>absurd h (Bq _)⟩
 .obtain⟨b,rfl,h4,h5⟩:=h3 hl
  obtain⟨xs,h6,h7⟩:=Cs.to h5;exact⟨xs,h6,λ_=>⟨b,rfl,h7⟩⟩
def jd(w:World):Still w w.drew:=(Still.refl w).cG
def Gm{g:Nat}{x:Pt}{v:Value}(h:Row w g 51 ⟨hU x v⟩):w.cell? ⟨g,0,none⟩=some (.int .i64 x.k)/\w.cell? ⟨g,1,none⟩=some (.bool x.q)/\w.cell? ⟨g,2,none⟩=some (.string (S x.t))/\w.cell? ⟨g,3,none⟩=some (.string (S x.n))/\w.cell? ⟨g,4,none⟩=some (.string (S x.o))/\w.cell? ⟨g,5,none⟩=some v:=
 ⟨h.ai rfl,h.ai rfl,h.ai rfl,h.ai rfl,h.ai rfl,h.ai rfl⟩
def LO(gx:Nat)(w1:World)(l:Option Addr)(lL lC:Nat)(R:Ending->World->Prop):Prop:=
 ∃xJ:World->Prop,(∃aHc:Bool->World->Prop,(aq (decide ((0:Int)<=(i64.wrap ((((lL:Nat):Int):Int)-(1:Int))))) (∃v:Int,w1.cell? (Addr.mk gx 0 none)=some (.int .i64 v)/\aq (decide (v=(0:Int))) (0<=(i64.wrap ((((lL:Nat):Int):Int)-(1:Int)))/\(i64.wrap ((((lL:Nat):Int):Int)-(1:Int)))<(lL:Nat)/\aE l (λa=>∃v1:Int,w1.cell? (a.add (Int.toNat (i64.wrap ((((lL:Nat):Int):Int)-(1:Int)))*6))=some (.int .i64 v1)/\aq (decide (v1=(0:Int))) (0<=(i64.wrap ((((lL:Nat):Int):Int)-(1:Int)))/\(i64.wrap ((((lL:Nat):Int):Int)-(1:Int)))<(lL:Nat)/\aE l (λa1=>∃v2:Bool,w1.cell? ((a1.add (Int.toNat (i64.wrap ((((lL:Nat):Int):Int)-(1:Int)))*6)).add 1)=some (.bool v2)/\∃v3:Bool,w1.cell? (Addr.mk gx 1 none)=some (.bool v3)/\aHc (decide (v2=v3)) w1.drew)) (aHc false w1.drew))) (aHc false w1.drew)) (aHc false w1.drew))/\∀(x:Bool) (aJf:Nat->Value) (w2:World),(aHc x w2)->aq x (∃Sw:World->Prop,Sw w2.drew/\0<=(i64.wrap ((((lL:Nat):Int):Int)-(1:Int)))/\(i64.wrap ((((lL:Nat):Int):Int)-(1:Int)))<(lL:Nat)/\aE l (λa2=>∃v4:List UInt8,(∀wq:World,Sw wq->wq.cell? ((a2.add (Int.toNat (i64.wrap ((((lL:Nat):Int):Int)-(1:Int)))*6)).add 2)=some (.string (S v4)))/\∃v5:List UInt8,(∀wq:World,Sw wq->wq.cell? (Addr.mk gx 2 none)=some (.string (S v5)))/\v4.length+v5.length<=9223372036854775807/\0<=(i64.wrap ((((lL:Nat):Int):Int)-(1:Int)))/\(i64.wrap ((((lL:Nat):Int):Int)-(1:Int)))<(lL:Nat)/\aE l (λa3=>cA ((a3.add (Int.toNat (i64.wrap ((((lL:Nat):Int):Int)-(1:Int)))*6)).add 2) (λ(w3:World)=>R (.returned (.slice l lL lC)) w3) 0 [(.string (S (v4++v5)))] w2.drew))) (xJ w2))/\∀(NK:Nat->Value) (w4:World),(xJ w4)->∃bZ:Int,∃mG:Bool,∃jf:List UInt8,∃b_:List UInt8,∃kF:List UInt8,∃(kB:Option Addr) (ko kr:Nat),w4.cell? (Addr.mk gx 0 none)=some (.int .i64 bZ)/\w4.cell? (Addr.mk gx 1 none)=some (.bool mG)/\w4.cell? (Addr.mk gx 2 none)=some (.string (S jf))/\w4.cell? (Addr.mk gx 3 none)=some (.string (S b_))/\w4.cell? (Addr.mk gx 4 none)=some (.string (S kF))/\w4.cell? (Addr.mk gx 5 none)=some (.slice kB ko kr)/\cP (w4.alloc (.cells #[(.int .i64 bZ),(.bool mG),(.string (S jf)),(.string (S b_)),(.string (S kF)),(.slice kB ko kr)] 51)) (λ(w5:World)=>eW w5 51 6 88 l lL lC (some (Addr.mk w4.heap.size 0 none)) 1 (λ(p:Option Addr) (cp:Nat) (w6:World)=>R (.returned (.slice p (lL+1) cp)) w6))
def aoS{w1:World}{gx B:Nat}{l:List Pt}{p:Option Addr}{c:Nat}{x:Pt}{wp:Option Addr}{wc:Nat}{R:Ending->World->Prop}(r1:Row w1 gx 51 ⟨hU x (.slice wp x.w.length wc)⟩)(ho:iR w1 B l (.slice p l.length c))(hB:B<=w1.heap.size)
  (hw:aHg w1 (λk=>B<=k/\k<w1.heap.size/\(Value.slice p l.length c).ownBlock≠some k) x.w (.slice wp x.w.length wc))(hl:aHf l+x.wt<1000000000)
  (hR:∀v' w',iR w' B (f_ l x) v'->Mod (λk=>(Value.slice p l.length c).ownBlock=some k) w1 w'->(∀k,v'.ownBlock=some k->(Value.slice p l.length c).ownBlock=some k\/w1.heap.size<=k)->R (.returned v') w'):LO gx w1 p l.length c R:=by
 obtain⟨p',c',xs,hv,hown,hcs⟩:=ho;injection hv with hv1 _ AM;subst hv1 AM;have y_:=LJ l;obtain⟨f0,f1,f2,f3,f4,f5⟩:=Gm (x:=x) r1;have sd:Still w1 w1.drew:=jd w1
 -- what stands behind is put in a new place
 have push:(∀y∈l.getLast?,¬Mg y x)->∀w4:World,w4=w1.drew->
   cP (w4.alloc (.cells ⟨hU x (.slice wp x.w.length wc)⟩ 51)) (λw5=>eW w5 51 6 88 p l.length c (some (Addr.mk w4.heap.size 0 none)) 1 (λp' cp w6=>R (.returned (.slice p' (l.length+1) cp)) w6)):=by
  rintro hno _ rfl;have UH:f_ l x=l++[x]:=by
   by_cases hl:l=[]
   .subst hl;rfl
   .obtain⟨m,y,rfl⟩:=aKG hl
    rw[Lf,aH (show¬(x.k=0/\y.k=0/\y.q=x.q)from hno y (by simp))]
  refine aO λw5 r5 s5 z5=>?_;have aH6:=sd.trans s5;refine rT (hown.still aH6) (by have:=aH6.size;omega) (hU x (.slice wp x.w.length wc)) rfl (abG rfl) (λ_=>⟨_,rfl,λj u hu=>?_⟩) (by omega) (by omega) λp' c' w6 aJT lZ hbk=>?_
  .rw[bM,cL]
   exact r5.ai hu
  .have UZ:Mod (λk=>(Value.slice p l.length c).ownBlock=some k) w1 w6:=Mod.trans aH6 lZ (λ_ h=>h.elim) (λ_ _ h=>h)
   have IA:w1.heap.size<=w5.heap.size:=aH6.size;have afF:∀k,(Value.slice p' (l.length+1) c').ownBlock=some k->(Value.slice p l.length c).ownBlock=some k\/w5.heap.size<=k:=by
    intro k hk;rcases hbk.own (n:=l.length)with e|e
    .exact .inl (by rw[<-e];exact hk)
    .rw[hk]at e
     obtain rfl:=bO e;exact .inr (aR _)
   refine hR _ _ ?_ UZ λk hk=>(afF k hk).imp_right λh=>by omega
   rw[UH];refine⟨p',c',_,by rw[aHb];rfl,by rw[aHb];exact aJT,?_⟩;have tr:∀{y:List Pt} {u:Value},aHg w1 (λk=>B<=k/\k<w1.heap.size/\(Value.slice p l.length c).ownBlock≠some k) y u->aHg w6 (λk=>B<=k/\k<w6.heap.size/\(Value.slice p' (l.length+1) c').ownBlock≠some k) y u:=by
    intro y u h;refine(h.mod UZ λk hk=>hk.2.2).mono λk hk=>⟨hk.1,oB hk.2.1 UZ.size,λe=>?_⟩;rcases afF k e with e|e
    .exact hk.2.2 e
    .omega
   exact(hcs.dO tr).snoc (tr hw)
 by_cases hl0:l=[]
 .subst hl0
  have e1:i64.wrap ((((([]:List Pt).length:Nat):Int):Int)-1)= -1:=by decide
  unfold LO;rw[e1];refine⟨λw4=>w4=w1.drew,⟨λb w2=>b=false/\w2=w1.drew,ax (λh=>absurd h (by decide)) (λ_=>⟨rfl,rfl⟩),?_⟩,?_⟩
  .rintro _ _ w2 ⟨rfl,rfl⟩
   exact rfl
  .rintro _ _ rfl
   obtain⟨f0,f1,f2,f3,f4,f5⟩:=Gm (x:=x) (r1.still (jd w1));exact⟨_,_,_,_,_,_,_,_,f0,f1,f2,f3,f4,f5,push (by simp) _ rfl⟩
 .obtain⟨m,y,rfl⟩:=aKG hl0
  have hlen:(m++[y]).length=m.length+1:=by simp
  obtain⟨ys,vy,hxs,hcm,hvy⟩:=hcs.last;have NT:ys.length=m.length*6:=hcm.len;obtain⟨g,cap,he,hgB,tN,hcap,hcell⟩:=hown.aKl (by omega);injection he with e1 e2 e3;subst e1 e3;have e1:i64.wrap ((((m++[y]).length:Nat):Int)-1)=(m.length:Int):=by rw[hlen,wrap_i64 (by omega) (by omega)];omega
  have Uv:∀(w':World),Still w1 w'->∀j u,(hU y vy)[j]?=some u->w'.cell? (((Addr.mk g 0 none).add (m.length*6)).add j)=some u:=by intro w' hs j u hu;rw[sx,bM,cL];refine hs.cell (hcell _ _ ?_);rw[hxs,zx (by rw[NT];omega),NT,Bk];exact hu
  have a0:∀a:Addr,a.add 0=a:=by intro a;unfold Addr.add;simp
  have y0:=Uv w1 (Still.refl _) 0 _ rfl;rw[a0]at y0;unfold LO;rw[e1];refine⟨λw4=>w4=w1.drew/\¬Mg y x,⟨λb w2=>(b=true↔Mg y x)/\w2=w1.drew,ax (λ_=>⟨x.k,f0,ax (λhk=>?_) (λhk=>⟨?_,rfl⟩)⟩) (λh=>absurd (aZ h) (by omega)),?_⟩,?_⟩
  .have hk:x.k=0:=aQ hk
   refine⟨by omega,by omega,y.k,by rw[bW];exact y0,ax (λhy=>?_) (λhy=>⟨?_,rfl⟩)⟩
   .have hy:y.k=0:=aQ hy
    refine⟨by omega,by omega,y.q,by rw[bW];exact Uv w1 (Still.refl _) 1 _ rfl,x.q,f1,?_,rfl⟩;rw[nk];exact⟨λe=>⟨hk,hy,e⟩,λe=>e.2.2⟩
   .have hy:¬y.k=0:=aZ hy
    exact⟨λe=>(by cases e),λe=>absurd e.2.1 hy⟩
  .have hk:¬x.k=0:=aZ hk
   exact⟨λe=>(by cases e),λe=>absurd e.1 hk⟩
  .rintro b _ w2 ⟨hb,rfl⟩
   refine ax (λh=>?_) (λh=>?_)
   .have hm:=hb.1 h
    have f2':=(r1.still ((jd w1).trans (jd w1.drew))).ai (i:=2) rfl;have hty:=Gk m [y];rw[Tu,y.uL]at hty;have hx2:=x.uL;refine⟨λwq=>wq=w1.drew.drew,rfl,by omega,by omega,y.t,?_,x.t,?_,by omega,by omega,by omega,?_⟩
    .rintro wq rfl
     rw[bW];exact Uv _ (sd.trans (jd w1.drew)) 2 _ rfl
    .rintro wq rfl
     exact f2'
    .rw[bW,aaj,sx]
     have so:Still w1 w1.drew.drew:=sd.cG;refine aS.store (hown.still so) (by omega) rfl λw' ho' hm' hz'=>hR _ _ ?_ ?_ λk hk=>.inl hk
     .rw[Lf,aN (show x.k=0/\y.k=0/\y.q=x.q from hm)]
      have hset:xs.set (m.length*6+2) (.string (S (y.t++x.t)))=ys++hU (.mk y.k y.q (y.t++x.t) y.n y.o y.w) vy:=by rw[hxs,Jz _ _ (by rw[NT];omega),NT,Bk];rfl
      rw[hset]at ho';have hmo:Mod (λk=>k=g) w1 w':=Mod.trans so hm' (λ_ h=>h.elim) (λ_ _ h=>h);have tr:∀{z:List Pt} {u:Value},aHg w1 (λk=>B<=k/\k<w1.heap.size/\(Value.slice (some ⟨g,0,none⟩) (m++[y]).length c).ownBlock≠some k) z u->aHg w' (λk=>B<=k/\k<w'.heap.size/\(Value.slice (some ⟨g,0,none⟩) (m++[y]).length c).ownBlock≠some k) z u:=by intro z u h;refine(h.mod hmo λk hk e=>hk.2.2 (by rw[e];simp[Value.ownBlock])).mono λk hk=>⟨hk.1,oB hk.2.1 hmo.size,hk.2.2⟩
      have Mz:(m++[Pt.mk y.k y.q (y.t++x.t) y.n y.o y.w]).length=(m++[y]).length:=by simp
      exact⟨some ⟨g,0,none⟩,c,_,by rw[Mz],by rw[Mz];exact ho',(hcm.dO tr).snoc (tr hvy)⟩
     .exact Mod.trans so hm' (λ_ h=>h.elim) (λk _ e=>by rw[e];simp[Value.ownBlock])
   .exact⟨rfl,λhm=>by rw[hb.2 hm]at h;cases h⟩
  .rintro _ _ ⟨rfl,hno⟩
   obtain⟨f0,f1,f2,f3,f4,f5⟩:=Gm (x:=x) (r1.still (jd w1));exact⟨_,_,_,_,_,_,_,_,f0,f1,f2,f3,f4,f5,push (by simpa using hno) _ rfl⟩
def GD{B:Nat}{l:List Pt}{v:Value}{x:Pt}{vw:Value}(ho:iR w B l v)(hB:B<=w.heap.size)(hw:aHg w (λk=>B<=k/\k<w.heap.size/\v.ownBlock≠some k) x.w vw)(hl:aHf l+x.wt<1000000000):
  an KP #[v,Ev x vw] w (λe w'=>∃v',e=.returned v'/\iR w' B (f_ l x) v'/\Mod (λk=>v.ownBlock=some k) w w'/\∀k,v'.ownBlock=some k->v.ownBlock=some k\/w.heap.size<=k):=by
 have ho':=ho;obtain⟨p,c,xs,rfl,hown,hcs⟩:=ho;obtain⟨wp,wc,rfl⟩:=hw.form;apply anX;refine aO λw1 r1 s1 z1=>?_;have key:LO w.heap.size w1 p l.length c (λe w'=>∃v',e=.returned v'/\iR w' B (f_ l x) v'/\Mod (λk=>(Value.slice p l.length c).ownBlock=some k) w w'/\∀k,v'.ownBlock=some k->(Value.slice p l.length c).ownBlock=some k\/w.heap.size<=k):=
  aoS (x:=x) r1 (ho'.still s1) (by omega) ((hw.still s1).mono λk hk=>⟨hk.1,by omega,hk.2.2⟩) hl λv' w' h1 h2 h3=>⟨v',rfl,h1,Mod.trans s1 h2 (λ_ h=>h.elim) (λ_ _ h=>h),λk hk=>(h3 k hk).imp_right λh=>by omega⟩
 exact key
end Go.Proofs.YtihaaoehhgmphaaGreatDoor.L
namespace Go.Proofs.YtihaaoehhgmphaaGreatDoor
open IntKind Go.RowKit Vc
set_option maxRecDepth 100000
variable{w w0:World}
def aI1{fn:FuncId}{cap:List Value}{K:FuncId->List Value->List Value->Prop}(h:K fn [] cap):gj (.func (.func fn) #[] ⟨cap⟩) K:=h
def aeV(f:FuncId)(cap:List Value)(w0:World)(S:Nat->Prop)(P:ag->Bool)(l:List ag):Prop:=
 cY aL f=true/\∀x∈l,∀w,Mod S w0 w->an f ⟨.string (S' x)::cap⟩ w λe w'=>e=.returned (.bool (P x))/\Still w w'
where S' (x:ag):ByteArray:=Go.Proofs.YtihaaoehhgmphaaGreatDoor.Vc.S x
def acU{l:List ag}{j:Nat}(hj:j<l.length):(strs l)[j]?=some (.string (S l[j])):=by simp[strs,hj]
def aS.aIT{B:Nat}{p:Option Addr}{c:Nat}{l:List ag}(h:aS w B bJ 1 (.slice p l.length c) l.length (strs l)){j:Nat}(hj:j<l.length):∃g,p=some ⟨g,0,none⟩/\w.cell? ((Addr.mk g 0 none).add (j*1))=some (.string (S l[j])):=by obtain⟨g,cap,cur,hv,_⟩:=h.row (by omega);injection hv with e1 e2 e3;subst e1;refine⟨g,rfl,?_⟩;rw[bM,cL,aHA];exact h.cells rfl j _ (acU hj)
def an3{B:Nat}{p:Option Addr}{c:Nat}{l:List ag}{f:FuncId}{cap:List Value}{S:Nat->Prop}{P:ag->Bool}(hl:l.length<=1000000)(h:aS w B bJ 1 (.slice p l.length c) l.length (strs l))(hf:aeV f cap w S P l):
  an Fq #[.slice p l.length c,.func (.func f) #[] ⟨cap⟩] w λe w'=>∃r:Int,e=.returned (.int .i64 r)/\Still w w'/\((r= -1/\∀x∈l,P x=false)\/∃k:Nat,k<l.length/\r=(k:Int)/\(∀x∈l.take k,P x=false)/\∃x,l[k]?=some x/\P x=true):=by
 apply Xo;refine⟨λi w1=>0<=i/\i<=(l.length:Nat)/\Still w w1/\∀x∈l.take i.toNat,P x=false,λi _=>(l.length-i).toNat,⟨by decide,by omega,Still.refl _,λx hx=>by simp at hx⟩,?_⟩;rintro i _ w1 ⟨i1,i2,s1,hno⟩;refine ax (λhi=>?_) (λhi=>?_)
 .have hi:i<(l.length:Nat):=by simpa using hi
  have hj:i.toNat<l.length:=by omega
  obtain⟨g,rfl,hc⟩:=(h.still s1).aIT hj;refine⟨i1,hi,_,hc,aI1 (ax (λ_=>?_) (λh=>by rw[hf.1]at h;cases h))⟩;refine(hf.2 l[i.toNat] (kL hj) w1 (s1.weaken λ_ h=>h.elim)).mono ?_;rintro _ w2 ⟨rfl,s2⟩;refine .inl ⟨_,rfl,ax (λhb=>?_) (λhb=>?_)⟩
  .exact⟨i,rfl,s1.trans s2,.inr ⟨i.toNat,hj,by omega,hno,_,iy hj,hb⟩⟩
  .rw[wrap_i64 (by omega) (by omega)]
   refine⟨⟨by omega,by omega,s1.trans s2,λx hx=>?_⟩,by dsimp only;omega⟩;rw[show(i+1).toNat=i.toNat+1 by omega,Bj hj,mE]at hx;rcases hx with hx|hx
   .exact hno x hx
   .obtain rfl:=jb.1 hx
    exact hb
 .have hi:¬i<(l.length:Nat):=by simpa using hi
  refine⟨-1,rfl,s1,.inl ⟨rfl,λx hx=>hno x ?_⟩⟩;rw[vD (by omega)];exact hx
def avi:Tryz.prog.underlying DB=some (.slice bJ):=rfl
def aq4(n:Nat):(Builtin.zeroCells (Value.string (S [])).cells n).toList=List.replicate n (.string (S [])):=by
 have:(Value.string (S [])).cells=#[.string (S [])]:=rfl;rw[this];simp[Builtin.zeroCells];apply List.ext_getElem
 .simp
 .intro i h1 h2
  simp[Nat.mod_one]
def asQ{g o n c:Nat}{t:TypeId}{cs:List Value}{w:World}{K:World->Prop}(hn:0<n)(hr:Row w g t ⟨cs⟩)(hl:o+n<=cs.length)
  (h:∀w',Row w' g t ⟨fF cs o (List.replicate n (.string (S [])))⟩->Mod (λk=>k=g) w w'->w'.heap.size=w.heap.size->K w'):LW aL DB (.slice (some ⟨g,o,none⟩) n c) w K:=by
 have:=dL (g:=g) (o:=o) (vs:=List.replicate n (.string (S []))) hr (by simpa using hl) (λv hv=>by rw[XF hv];rfl) (K:=λw'=>Row w' g t ⟨fF cs o (List.replicate n (.string (S [])))⟩/\Mod (λk=>k=g) w w'/\w'.heap.size=w.heap.size) λw' a b c=>⟨a,b,c⟩;obtain⟨w',h1,h2,h3,h4⟩:=ZO (P:=aL) this;refine⟨w',λty=>?_,h w' h2 h3 h4⟩;have hz:∀w,(zeroValue bJ).run aL w=.ok (.string (S [])) w:=acR;obtain⟨m,rfl⟩:∃m,n=m+1:=⟨n-1,by omega⟩;simp[Builtin.clear_,run_underlying avi,hz,aq4,h1,Result.andThen]
def Y1{B:Nat}{p:Option Addr}{c:Nat}{l:List ag}{f:FuncId}{cap:List Value}{P:ag->Bool}(hl:l.length<=1000000)(h:aS w B bJ 1 (.slice p l.length c) l.length (strs l))(hf:aeV f cap w (λk=>(Value.slice p l.length c).ownBlock=some k) P l):
  an Jo #[.slice p l.length c,.func (.func f) #[] ⟨cap⟩] w λe w'=>e=.returned (.slice p (l.filter λx=>!P x).length c)/\aS w' B bJ 1 (.slice p (l.filter λx=>!P x).length c) (l.filter λx=>!P x).length (strs (l.filter λx=>!P x))/\Mod (λk=>(Value.slice p l.length c).ownBlock=some k) w w':=by
 apply aje;refine(an3 hl h hf).mono ?_;rintro _ w1 ⟨r,rfl,s1,⟨rfl,hno⟩|⟨k,hk,rfl,hno,y,hy,hP⟩⟩
 .refine .inl ⟨_,rfl,ax (λ_=>?_) (λhb=>absurd rfl (aZ hb))⟩
  have e:l.filter (λx=>!P x)=l:=FA.2 λx hx=>by rw[hno x hx];rfl
  rw[e];exact⟨rfl,h.still s1,s1.weaken λ_ h=>h.elim⟩
 .refine .inl ⟨_,rfl,ax (λhb=>absurd (aQ hb) (by omega)) (λ_=>?_)⟩
  obtain⟨g,rfl,_⟩:=h.aIT hk;have e0:(l.take (k+1)).filter (λx=>!P x)=l.take k:=by rw[FH,hy];simp only[Option.toList_some,P5];rw[FA.2 λx hx=>by rw[hno x hx];rfl];simp[hP]
  refine⟨λi j w2=>∃m:List ag,m.length=l.length/\aS w2 B bJ 1 (.slice (some ⟨g,0,none⟩) l.length c) l.length (strs m)/\0<=i/\i<j/\j<=(l.length:Nat)/\m.take i.toNat=(l.take j.toNat).filter (λx=>!P x)/\i.toNat=((l.take j.toNat).filter (λx=>!P x)).length/\m.drop j.toNat=l.drop j.toNat/\Mod (λk=>k=g) w w2,λ_ j _=>(l.length-j).toNat,?_,?_⟩
  .rw[wrap_i64 (by omega) (by omega)]
   refine⟨l,rfl,h.still s1,by omega,by omega,by omega,?_,?_,rfl,s1.weaken λ_ h=>h.elim⟩
   .rw[show((k:Int)+1).toNat=k+1 by omega,show(k:Int).toNat=k by omega,e0]
   .rw[show((k:Int)+1).toNat=k+1 by omega,show(k:Int).toNat=k by omega,e0,eZ]
    omega
  rintro i j _ w2 ⟨m,hm,o2,i1,i2,i3,t1,t2,t3,m2⟩;refine ax (λhj=>?_) (λhj=>?_)
  .have hj:j<(l.length:Nat):=by simpa using hj
   have hjl:j.toNat<l.length:=by omega
   have hcell:w2.cell? ((Addr.mk g 0 none).add (j.toNat*1))=some (.string (S l[j.toNat])):=by
    have o2':aS w2 B bJ 1 (.slice (some ⟨g,0,none⟩) m.length c) m.length (strs m):=by rw[hm];exact o2
    obtain⟨g',e,hc⟩:=o2'.aIT (j:=j.toNat) (by omega);injection e with e;injection e with e;subst e;rw[hc];have e2:m[j.toNat]?=l[j.toNat]?:=by have:=fT (λz=>z[0]?) t3;simpa[Dg]using this
    rw[iy (by omega),iy hjl]at e2;rw[bO e2]
   refine⟨by omega,hj,_,hcell,aI1 (ax (λ_=>?_) (λh=>by rw[hf.1]at h;cases h))⟩;refine(hf.2 l[j.toNat] (kL hjl) w2 (m2.weaken λk hk=>by rw[hk];rfl)).mono ?_;rintro _ w3 ⟨rfl,s3⟩;have m3:Mod (λk=>k=g) w w3:=Mod.trans m2 s3 (λ_ h=>h) (λ_ _ h=>h.elim);have ts:(l.take (j+1).toNat).filter (λx=>!P x)=(l.take j.toNat).filter (λx=>!P x)++(if P l[j.toNat]then[]else[l[j.toNat]]):=by rw[show(j+1).toNat=j.toNat+1 by omega,Bj hjl,P5];congr 1;rw[Qs,List.filter_nil];cases hq:P l[j.toNat]<;>rfl
   refine .inl ⟨_,rfl,ax (λhb=>?_) (λhb=>?_)⟩
   .have hb:P l[j.toNat]=false:=by simpa using hb
    refine⟨i1,by omega,?_⟩;rw[aHA];refine aS.store (o2.still s3) (by omega) rfl λw4 o4 m4 z4=>?_;rw[wrap_i64 (by omega) (by omega),wrap_i64 (by omega) (by omega)];have hit:i.toNat<m.length:=by omega
    have d1:((l.take j.toNat).filter (λx=>!P x)++[l[j.toNat]]).length=i.toNat+1:=by simp;omega
    refine⟨⟨m.set i.toNat l[j.toNat],by simpa using hm,?_,by omega,by omega,by omega,?_,?_,?_,Mod.trans m3 m4 (λ_ h=>h) (λ_ _ h=>h)⟩,by dsimp only;omega⟩
    .have:strs (m.set i.toNat l[j.toNat])=(strs m).set i.toNat (.string (S l[j.toNat])):=by simp[strs,List.map_set]
     rw[this];exact o4
    .rw[ts,hb,show(i+1).toNat=i.toNat+1 by omega,Bj (by simpa using hit),List.take_set_of_le (aR _),t1]
     simp
    .rw[ts,hb]
     simp only[l9,jq];omega
    .rw[List.drop_set_of_lt (by omega),show(j+1).toNat=j.toNat+1 by omega,<-Bo,t3,Bo]
   .have hb:P l[j.toNat]=true:=by simpa using hb
    rw[wrap_i64 (by omega) (by omega)];refine⟨⟨m,hm,o2.still s3,i1,by omega,by omega,?_,?_,?_,m3⟩,by dsimp only;omega⟩
    .rw[ts,hb,t1];simp
    .rw[ts,hb];simpa using t2
    .rw[show(j+1).toNat=j.toNat+1 by omega,<-Bo,t3,Bo]
  .have hj:¬j<(l.length:Nat):=by simpa using hj
   have hjl:j.toNat=l.length:=by omega
   rw[hjl,vD (aR _)]at t1 t2;have hc:l.length<=c:=aS.afE o2;refine⟨i1,by omega,?_⟩;rw[aH (by omega)];obtain⟨g',cap',cur,hv,hB,hr,hcc,hsz,ht⟩:=o2.row (by omega);injection hv with e1 e2 e3;injection e1 with e1;injection e1 with e1;subst e1 e3;have hcap:c<=maxLen:=by
    rcases o2.2 with⟨e,_⟩|⟨g2,cap2,aFz,e,_,_,_,hm,_⟩
    .cases e
    .injection e with e1 e2 e3;omega
   have hr':Row w2 g bJ ⟨cur.toList⟩:=by simpa using hr
   have hlen:cur.toList.length=c:=by simpa using hsz
   rw[aHA]at ht;show LW aL DB (.slice (some ((Addr.mk g 0 none).add (i.toNat*1))) _ _) _ _
   rw[bM,cL,aHA];refine asQ (by omega) hr' (by omega) λw3 r3 m3 z3=>⟨i1,by omega,?_⟩;rw[acS _ _ _ (by simp;omega)]at r3;refine⟨by rw[t2],⟨by simp[strs],.inr ⟨g,c,_,rfl,hB,r3,by omega,hcap,?_,?_⟩⟩,Mod.trans m2 m3 (λk hk=>by rw[hk];rfl) (λk _ hk=>by rw[hk];rfl)⟩
   .simp only[vG,aHb,eZ,j_,Po,hlen]
    omega
   .rw[aHA,<-t2]
    rw[j9,OS (by simp;omega),QK,Nat.min_self,<-t1];have:(strs m).take i.toNat=strs (m.take i.toNat):=by simp[strs,List.map_take]
    rw[<-this,<-ht,QK,Dq (by omega)]
structure aHx(w:World):Prop where
 env:Env w
 max:∃m:Int,w.cell? ⟨0,0,none⟩=some (.int .i64 m)
def aHx.still{w':World}(h:aHx w)(hm:Still w w'):aHx w':=⟨h.env.still hm,by obtain⟨m,h2⟩:=h.max;exact⟨m,hm.cell h2⟩⟩
def aII(s sep:ag):List ag:=Lib.split s sep
def aaQ(s sep:ag):(Lib.splitB (S sep) 0 (Lib.countB (S s) (S sep)) (S s)).map Value.string=strs (aII s sep):=by
 have h:=Lib.splitB_data (S sep) 0 (Lib.countB (S s) (S sep)) (S s);have e:aII s sep=Lib.splitK sep 0 (Lib.countB (S s) (S sep)) s:=rfl;rw[e,strs];have h2:(Lib.splitB (S sep) 0 (Lib.countB (S s) (S sep)) (S s))=(Lib.splitK sep 0 (Lib.countB (S s) (S sep)) s).map S:=by
  have:∀l:List ByteArray,l=(l.map (·.data.toList)).map S:=λl=>by
   rw[Dw]
   conv=>lhs;rw[<-List.map_id l]
   apply List.map_congr_left;intro b _;rfl
  rw[this (Lib.splitB _ _ _ _),h]
 rw[h2,Dw];rfl
def R4(s sep:ag)(h:sep≠[]):(aII s sep).length=Lib.countB (S s) (S sep)+1/\(aII s sep).length<=s.length+1:=by have h1:1<=(S sep).size:=nj.2 h;have e:=fT List.length (aaQ s sep);have e2:=Lib.splitB_all (S sep) h1 0 _ (S s) rfl;have e3:=Lib.countB_le (S sep) h1 _ (S s) (aR _);have e4:(S s).size=s.length:=rfl;simp only[ke,strs]at e;omega
def K4(he:aHx w){s sep:ag}(hs:s.length<=900000)(hsep:sep≠[]):an QM #[.string (S s),.string (S sep)] w (λe w'=>∃p c,e=.returned (.slice p (aII s sep).length c)/\aS w' w.heap.size bJ 1 (.slice p (aII s sep).length c) (aII s sep).length (strs (aII s sep))/\Still w w'):=by obtain⟨m,hm⟩:=he.max;obtain⟨l1,l2⟩:=R4 s sep hsep;refine(Tryz.strings_Split (S s) (S sep) m w (by show s.length<_;omega) hm (nj.2 hsep)).mono ?_;rintro _ w' ⟨rfl,rfl⟩;refine⟨_,_,by rw[l1],?_,(Mod.refl _ _).alloc _⟩;rw[aaQ];have r:=Row.new w bJ (strs (aII s sep)).toArray;refine⟨by simp[strs],.inr ⟨w.heap.size,_,_,by rw[l1],aR _,r,by omega,?_,by simp[strs,l1],by rw[aHA];exact vD (by simp[strs])⟩⟩;simp only[maxLen];omega
def acV(x:ag):Bool:=decide (x=[])
def DV(path:ag):List ag:=(aII path [47]).filter λx=>!acV x
def anm:cY aL QS=true:=by kernel_rfl
def aoT(he:aHx w){path:ag}(hs:path.length<=1000):an Rb #[.string (S path)] w (λe w'=>∃p c,e=.returned (.slice p (DV path).length c)/\aS w' w.heap.size bJ 1 (.slice p (DV path).length c) (DV path).length (strs (DV path))/\Still w w'):=by
 apply amN;refine(K4 he (by omega) (by decide)).mono ?_;rintro _ w1 ⟨p,c,rfl,ho,s1⟩;have hl:=(R4 path [47] (by decide)).2;refine .inl ⟨_,_,_,rfl,(Y1 (P:=acV) (cap:=[]) (by omega) ho ⟨anm,λx _ w _=>?_⟩).mono ?_⟩
 .apply amc
  exact⟨rfl,Still.refl _⟩
 .rintro _ w2 ⟨rfl,o2,m2⟩
  exact .inl ⟨_,_,_,rfl,p,c,rfl,o2,s1.own ho (aR _) m2⟩
end Go.Proofs.YtihaaoehhgmphaaGreatDoor
