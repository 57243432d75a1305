/- Texts of one proof, one behind the other. Conditions: as each theorem names them. -/
import Derived.Test.YtihaaoehhgmphaaGreatDoorQ4
import Derived.Tactics
import Derived.Tactics2
import Derived.Defers
import Derived.Recover
import Derived.Laws.Pointers
import Derived.Maps.Keyed
import Derived.DeepKeys3
import Derived.Shelf.Strings.Builder1
import Derived.Shelf.Strings.Builder2
import Derived.Shelf.Strings.OnBuilder
import Derived.Shelf.Strings.Trim
import Derived.Shelf.Small.Utf8
import Derived.Shelf.Small.Bits
import Derived.Shelf.Small.Strs
import Derived.Shelf.Small.Wraps
import Derived.Shelf.Strings.BuilderF
import Derived.Shelf.Strings.BuilderK
import Derived.Shelf.Utf8.RuneCount
import Derived.Shelf.Strings.Builder2Cap
import Derived.Shelf.Strconv.Atoi
import Derived.Shelf.Strconv.Itoa0
import Derived.Shelf.Strconv.Itoa1
import Derived.Shelf.LaysM
import Derived.Shelf.Strconv.Itoa2
import Derived.Shelf.Strconv.Itoa3
import Derived.Shelf.Strconv.AtoiErrFast
import Derived.Shelf.Strconv.ParseIntEmpty
import Derived.Shelf.Strconv.AtoiFail
import Derived.Shelf.Strconv.Clone
import Derived.Shelf.Strconv.SyntaxError
import Derived.Shelf.LaysC
import Derived.Shelf.Strconv.ToError
import Derived.Shelf.Strconv.AtoiErr
import Derived.Shelf.Strconv.ErrVar
import Derived.Shelf.Strconv.Lower
import Derived.Shelf.Strconv.ParseUint10
import Derived.Shelf.Strconv.ParseUint10Empty
import Derived.Shelf.Strconv.ParseUint10Any
import Derived.Shelf.Strconv.ParseInt10
import Derived.Shelf.Strconv.AtoiLong
import Derived.Shelf.Strconv.AtoiInnerAll
import Derived.Shelf.Strconv.RangeError
import Derived.Shelf.Strconv.ToErrorRange
import Derived.Shelf.Strconv.AtoiAll
import Derived.Shelf.Strconv.ErrVarAll
import Derived.Shelf.Strconv.ParseUintEmpty
import Derived.Shelf.Strconv.ParseUint10b64
import Derived.Shelf.Strconv.ParseUint10b32
import Derived.Shelf.Strconv.ParseUint10b16
import Derived.Shelf.Strconv.ParseUint10b8
import Derived.Shelf.Strconv.ParseUint10At
import Derived.Shelf.Strconv.ParseInt10At64
import Derived.Shelf.Strconv.ParseInt10At32
import Derived.Shelf.Strconv.ParseInt10At16
import Derived.Shelf.Strconv.ParseInt10At8
import Derived.Shelf.Strconv.ParseInt10All
import Derived.Shelf.Strconv.ParseIntPublic10
import Derived.Shelf.Strconv.ErrVarParseInt
import Derived.Shelf.Strings.Search1
import Derived.Shelf.Strings.Search2
import Derived.Shelf.Strings.Search3
import Derived.Shelf.Strings.Cut
import Derived.Shelf.Strings.Count
import Derived.Shelf.Strings.Shaped
import Derived.Shelf.Sort.Plain
import Derived.Shelf.Strings.LastIndex
import Derived.Shelf.Strings.Prefix
import Derived.Shelf.Strings.Split
import Derived.Shelf.Strings.Replace
import Derived.Shelf.Strings.SplitShaped
import Derived.Shelf.Unicode.Decode
import Derived.Shelf.Strings.Runes
import Derived.Shelf.Strings.RuneCount
import Derived.Shelf.Strings.AsciiSet
import Derived.Shelf.Strings.Explode
import Derived.Shelf.Unicode.DecodeSlow
import Derived.Shelf.Unicode.DecodeAny
import Derived.Shelf.Unicode.DecodeLast
import Derived.Shelf.Strings.BuilderCap
import Derived.Shelf.Slices.Turned
import Derived.Shelf.Slices.Equal
import Derived.Ground.Names2Prog
import Derived.Shelf.Slices.ReverseS
import Derived.Shelf.Slices.Clone
import Derived.Shelf.Slices.CompactS
import Derived.Shelf.Slices.SearchI
import Derived.Shelf.Slices.Cells
import Derived.Shelf.Slices.In.SortNone
import Derived.Shelf.Slices.Empties2
import Derived.Ground.PaProg
import Derived.Shelf.Path.Small
import Derived.Test.YtihaaoehhgmphaaGreatDoorProg
import Derived.Lib.LaidTab
import Derived.Sort.OwnSorted
import Derived.Laws.RangeString
import Derived.Shelf.Strings.SlTrimAscii
set_option linter.all false
def Go.Proofs.bg{α:Type}{x:Option α}{a b:α}(h:x=some a)(e:a=b:=by kernel_rfl):x=some b:=h.trans (congrArg some e)
namespace Go.Proofs.YtihaaoehhgmphaaGreatDoor
open IntKind Go.RowKit Vc
variable{w:World}
abbrev aKB(w:World)(t:TypeId)(s:S8):World:=
 ((((((((w.alloc (.cells #[(.int .u32 0),(.int .u32 0),(.int .u32 0),(.int .u32 0),(.int .u32 0),(.int .u32 0),(.int .u32 0),(.int .u32 0)] t)).setCell (Addr.mk w.heap.size 0 none) (uv s.a)).setCell (Addr.mk w.heap.size 1 none) (uv s.b)).setCell (Addr.mk w.heap.size 2 none) (uv s.c)).setCell (Addr.mk w.heap.size 3 none) (uv s.d)).setCell (Addr.mk w.heap.size 4 none) (uv s.e)).setCell (Addr.mk w.heap.size 5 none) (uv s.f)).setCell (Addr.mk w.heap.size 6 none) (uv s.g)).setCell (Addr.mk w.heap.size 7 none) (uv s.h)
def abE(w:World)(t:TypeId)(s:S8):Row (aKB w t s) w.heap.size t ⟨dF s.list⟩:=by have h:Row (w.alloc (.cells ⟨List.replicate 8 (.int .u32 0)⟩ t)) w.heap.size t ⟨List.replicate 8 (.int .u32 0)⟩:=Row.new _ _ _;exact(((((((h.gZ 0 (uv s.a)).gZ 1 (uv s.b)).gZ 2 (uv s.c)).gZ 3 (uv s.d)).gZ 4 (uv s.e)).gZ 5 (uv s.f)).gZ 6 (uv s.g)).gZ 7 (uv s.h)
def acC(w:World)(t:TypeId)(s:S8){Q:World->Prop}(h:Q (aKB w t s)):
  cS (w.alloc (.cells #[(.int .u32 0),(.int .u32 0),(.int .u32 0),(.int .u32 0),(.int .u32 0),(.int .u32 0),(.int .u32 0),(.int .u32 0)] t)) λy0=>zJ y0 (zA w 0) (uv s.a) λy1=>zJ y1 (zA w 1) (uv s.b) λy2=>zJ y2 (zA w 2) (uv s.c) λy3=>zJ y3 (zA w 3) (uv s.d) λy4=>zJ y4 (zA w 4) (uv s.e) λy5=>zJ y5 (zA w 5) (uv s.f) λy6=>zJ y6 (zA w 6) (uv s.g) λy7=>zJ y7 (zA w 7) (uv s.h) Q:=by
 have h0:Row (w.alloc (.cells ⟨List.replicate 8 (.int .u32 0)⟩ t)) w.heap.size t ⟨List.replicate 8 (.int .u32 0)⟩:=Row.new _ _ _;have h1:=h0.gZ 0 (uv s.a);have h2:=h1.gZ 1 (uv s.b);have h3:=h2.gZ 2 (uv s.c);have h4:=h3.gZ 3 (uv s.d);have h5:=h4.gZ 4 (uv s.e);have h6:=h5.gZ 5 (uv s.f);have h7:=h6.gZ 6 (uv s.g);unfold cS;exact⟨h0.wr 0 (by simp),h1.wr 1 (by simp),h2.wr 2 (by simp),h3.wr 3 (by simp),h4.wr 4 (by simp),h5.wr 5 (by simp),h6.wr 6 (by simp),h7.wr 7 (by simp),h⟩
def abF{S:Nat->Prop}{a w:World}(h:Mod S a w)(t:TypeId)(s:S8):Mod S a (aKB w t s):=by have hs:=h.size;exact((((((((h.alloc _).setCell (.inr hs) _).setCell (.inr hs) _).setCell (.inr hs) _).setCell (.inr hs) _).setCell (.inr hs) _).setCell (.inr hs) _).setCell (.inr hs) _).setCell (.inr hs) _
structure yP(w w1:World)(p q k:Nat)(t:TypeId)(s0 s:S8):Prop where
 old:Row w1 p t ⟨dF s0.list⟩
 new:Row w1 q 441 ⟨dF s.list⟩
 aLu:Row w1 k 474 ⟨dF ks⟩
 still:Still w w1
def yP.drew{w w1:World}{p q k:Nat}{t:TypeId}{s0 s:S8}(h:yP w w1 p q k t s0 s):yP w w1.drew p q k t s0 s:=⟨h.old.drew,h.new.drew,h.aLu.drew,h.still.drew⟩
def asD{i:Nat}{b:List UInt8}{s:S8}(h:i<64):yp (ks.drop i) ((sched b).drop i) s=yp (ks.drop (i+1)) ((sched b).drop (i+1)) (VT s (ks.getD i 0) ((sched b).getD i 0)):=by
 have h1:i<ks.length:=h;have h2:i<(sched b).length:=by rw[Q5];exact h
 rw[mI h1,mI h2,yp,zh,zh,gJ h1,gJ h2];rfl
def asE{s x:S8}{i:Nat}(h:i<8):(dF (((s.plus x).list.take i)++s.list.drop i)).set i (.int .u32 ((s.list.getD i 0+x.list.getD i 0).toNat:Int))=dF (((s.plus x).list.take (i+1))++s.list.drop (i+1)):=by
 match i,h with
 |0,_=>rfl
 |1,_=>rfl
 |2,_=>rfl
 |3,_=>rfl
 |4,_=>rfl
 |5,_=>rfl
 |6,_=>rfl
 |7,_=>rfl
def auJ{s x:S8}{i:Nat}(h:i<8):(dF (((s.plus x).list.take i)++s.list.drop i))[i]?=some (.int .u32 ((s.list.getD i 0).toNat:Int)):=by
 match i,h with
 |0,_=>rfl
 |1,_=>rfl
 |2,_=>rfl
 |3,_=>rfl
 |4,_=>rfl
 |5,_=>rfl
 |6,_=>rfl
 |7,_=>rfl
def auK(x:S8)(k v:B):((dF [x.a,x.a,x.b,x.c,x.d,x.e,x.f,x.g]).set 4 (.int .u32 ((x.d+(x.h+(jQ x.e 6^^^jQ x.e 11^^^jQ x.e 25)+(x.g^^^(x.e&&&(x.f^^^x.g)))+k+v)).toNat:Int))).set 0
  (.int .u32 ((x.h+(jQ x.e 6^^^jQ x.e 11^^^jQ x.e 25)+(x.g^^^(x.e&&&(x.f^^^x.g)))+k+v+((jQ x.a 2^^^jQ x.a 13^^^jQ x.a 22)+((x.a&&&x.b)|||(x.c&&&(x.a|||x.b))))).toNat:Int))=dF (VT x k v).list:=by
 rw[auG,asy];have h (T u m:B):T+(u+m)=T+u+m:=(BitVec.add_assoc _ _ _).symm;rw[h _ (jQ x.a 2^^^jQ x.a 13^^^jQ x.a 22)];rfl
set_option maxHeartbeats 1000000 in
def GB{p:Nat}{t:TypeId}{s:S8}(hp:Row w p t ⟨dF s.list⟩)(b:List UInt8)(hb:b.length=64):
  aH3 aLz #[.pointer (some ⟨p,0,none⟩),.string (S b)] w
   (λe w'=>e=.returned (.tuple #[])/\Mod (λi=>i=p) w w'/\Row w' p t ⟨dF (comp s b).list⟩):=by
 refine aly _ _ _ _ ?_;refine aqY.mono ?_;rintro _ w1 ⟨rfl,aId⟩;have hp1:=hp.mod aId (λh=>h);have hkl:(dF ks).length=64:=rfl;have hko:=LJ ks;refine .inl ⟨dF ks,hkl,rfl,hkl,hko,w1.heap.size,0,List.replicate 64 (.int .u32 0),474,rfl,Row.new _ _ _,by rw[hkl];simp,?_⟩;have hek:(List.replicate 64 (Value.int .u32 0)).take 0++(dF ks++(List.replicate 64 (Value.int .u32 0)).drop (0+(dF ks).length))=dF ks:=by rw[hkl];simp
 rw[hek];have hk2:=(Row.new w1 474 ⟨List.replicate 64 (.int .u32 0)⟩).setRow ⟨dF ks⟩ (by simp[hkl]);have hp2:=(hp1.alloc (.cells ⟨List.replicate 64 (.int .u32 0)⟩ 474)).Ro (g':=w1.heap.size) (FP hp1.lt) ⟨dF ks⟩;have hm2:Still w ((w1.alloc (.cells ⟨List.replicate 64 (.int .u32 0)⟩ 474)).setRow w1.heap.size ⟨dF ks⟩):=(aId.alloc _).setRow (.inr aId.size) _;have hkp:w1.heap.size≠p:=Qz hp1.lt;have azj:=aId.size;generalize w1.heap.size=k at hk2 hp2 hm2 hkp azj⊢;generalize(w1.alloc (.cells ⟨List.replicate 64 (.int .u32 0)⟩ 474)).setRow k ⟨dF ks⟩=w2 at hk2 hp2 hm2⊢;refine⟨_,_,_,_,_,_,_,_,hp2.dY rfl,hp2.yO rfl,hp2.yO rfl,hp2.yO rfl,hp2.yO rfl,hp2.yO rfl,hp2.yO rfl,hp2.yO rfl,?_⟩;refine acC w2 441 s ?_;have hr3:yP w (aKB w2 441 s) p w2.heap.size k t s s:=by
  have aKn:=FP hp2.lt;have hkn:=FP hk2.lt;exact⟨((((((((hp2.alloc _).far aKn _).far aKn _).far aKn _).far aKn _).far aKn _).far aKn _).far aKn _).far aKn _,abE w2 441 s,
   ((((((((hk2.alloc _).far hkn _).far hkn _).far hkn _).far hkn _).far hkn _).far hkn _).far hkn _).far hkn _,abF hm2 441 s⟩
 have IT:w2.heap.size≠p:=Qz hp2.lt;have NC:w2.heap.size≠k:=Qz hk2.lt;have hq:=hm2.size;change Calls _ _ _ (aKB w2 441 s) _;generalize aKB w2 441 s=w3 at hr3⊢;generalize w2.heap.size=q at hr3 IT NC hq⊢;refine(aqX b hb).mono ?_;rintro _ w4 ⟨rfl,k4⟩;have hr4:yP w w4 p q k t s s:=⟨hr3.old.mod k4 (λh=>h),hr3.new.mod k4 (λh=>h),hr3.aLu.mod k4 (λh=>h),Mod.trans hr3.still k4 (λ_ h=>h) (λ_ _ h=>h)⟩;refine .inl ⟨_,by rw[aax,Q5],rfl,?_⟩;refine⟨λx w5=>∃(i:Nat) (x8:S8),x=(i:Int)/\i<=64/\yp (ks.drop i) ((sched b).drop i) x8=yp ks (sched b) s/\yP w w5 p q k t s x8,λx _=>(64-x).toNat,⟨0,s,rfl,by omega,rfl,hr4⟩,?_⟩;rintro _ _ w5 ⟨i,x8,rfl,hi,ND,hr⟩;have e1:i64.wrap ((i:Int)+1)=((i+1:Nat):Int):=by rw[wrap_i64 (by omega) (by omega)];omega
 refine aB (λhx=>?_) (λhx=>?_)
 .have hx:=aT hx
  have hx':i<64:=by omega
  have hks:i<ks.length:=hx';rw[asD hx']at ND;simp only[e1,bT];refine⟨by omega,by omega,_,by rw[eX];exact LK (by rw[Q5];exact hx'),by decide,by decide,_,hr.new.at (k:=4) rfl,by decide,by decide,_,hr.new.at (k:=0) rfl,
   λwq=>yP w wq p q k t s x8,hr.drew.drew,by decide,by decide,_,λwq hq=>hq.new.at (k:=7) rfl,by decide,by decide,_,λwq hq=>hq.new.at (k:=6) rfl,by decide,by decide,_,λwq hq=>hq.new.at (k:=5) rfl,
   by decide,by decide,_,λwq hq=>hq.new.at (k:=6) rfl,by omega,by omega,_,λwq hq=>hq.aLu.at (LK hks),?_⟩
  refine(vY _ 6 (by decide) (by decide)).mono ?_;rintro _ _ ⟨rfl,rfl⟩;refine .inl ⟨_,rfl,hr.drew.drew,(vY _ 11 (by decide) (by decide)).mono ?_⟩;rintro _ _ ⟨rfl,rfl⟩;refine .inl ⟨_,rfl,hr.drew.drew,(vY _ 25 (by decide) (by decide)).mono ?_⟩;rintro _ _ ⟨rfl,rfl⟩;refine .inl ⟨_,rfl,hr.drew.drew,λwq=>yP w wq p q k t s x8,hr.drew.drew.drew,by decide,by decide,_,λwq hq=>hq.new.at (k:=1) rfl,by decide,by decide,_,λwq hq=>hq.new.at (k:=2) rfl,by decide,by decide,_,λwq hq=>hq.new.at (k:=1) rfl,?_⟩;refine(vY _ 2 (by decide) (by decide)).mono ?_;rintro _ _ ⟨rfl,rfl⟩;refine .inl ⟨_,rfl,hr.drew.drew.drew,(vY _ 13 (by decide) (by decide)).mono ?_⟩;rintro _ _ ⟨rfl,rfl⟩;refine .inl ⟨_,rfl,hr.drew.drew.drew,(vY _ 22 (by decide) (by decide)).mono ?_⟩;rintro _ _ ⟨rfl,rfl⟩;refine .inl ⟨_,rfl,hr.drew.drew.drew,?_⟩;simp only[Mp,afy,afx,UA];have hrd:=hr.drew.drew.drew.drew;have hc:(dF x8.list).take 1++((dF x8.list).take 7++(dF x8.list).drop (1+((dF x8.list).take 7).length))=dF [x8.a,x8.a,x8.b,x8.c,x8.d,x8.e,x8.f,x8.g]:=rfl;refine⟨λwq=>yP w wq p q k t s x8,hrd,by decide,by decide,by decide,by decide,(dF x8.list).take 7,λv hv=>LJ x8.list v (O8 hv),⟨rfl,λ_=>⟨_,rfl,?_⟩⟩,.inr ⟨q,1,dF x8.list,441,?_,hrd.new,aW 8,?_⟩⟩
  .intro j u hu
   rw[zk]at hu;split at hu
   .exact hrd.new.yO hu
   .cases hu
  .rw[aL (by decide)]
   rfl
  .rw[hc]
   have hn:=hrd.new.setRow ⟨dF [x8.a,x8.a,x8.b,x8.c,x8.d,x8.e,x8.f,x8.g]⟩ (by simp[dF,S8.list]);refine⟨by decide,by decide,_,hn.at (k:=4) rfl,?_⟩;simp only[Mp];refine⟨by decide,by decide,hn.Ci (k:=4) (show 4<8 by decide),by decide,by decide,(hn.setAt 4 _).Ci (k:=0) (show 0<8 by decide),⟨i+1,_,rfl,by omega,ND,?_,?_,?_,?_⟩,by omega⟩
   .exact((hrd.old.Ro IT.symm _).HS IT.symm 4 _).HS IT.symm 0 _
   .rw[<-auK]
    exact(hn.setAt 4 _).setAt 0 _
   .exact((hrd.aLu.Ro NC.symm _).HS NC.symm 4 _).HS NC.symm 0 _
   .exact((hrd.still.setRow (.inr hq) _).setAt (.inr hq) 4 _).setAt (.inr hq) 0 _
 .have hx:=a_ hx
  obtain rfl:i=64:=by omega
  have hdone:x8=yp ks (sched b) s:=by have he:ks.drop 64=[]:=rfl;rw[<-ND,he,yp];intro a b c d h _;cases h
  have hcs:comp s b=s.plus x8:=by rw[hdone];rfl
  rw[hcs];clear hcs hdone ND;generalize x8=x at hr;refine⟨λv w6=>∃j:Nat,v=(j:Int)/\j<=8/\Row w6 p t ⟨dF ((s.plus x).list.take j++s.list.drop j)⟩/\Row w6 q 441 ⟨dF x.list⟩/\Mod (λi=>i=p) w w6,λv _=>(8-v).toNat,
   ⟨0,rfl,by omega,hr.old,hr.new,hr.still.weaken (λ_ h=>h.elim)⟩,?_⟩
  rintro _ _ w6 ⟨j,rfl,hj,ho,hn,hm⟩;have e1:i64.wrap ((j:Int)+1)=((j+1:Nat):Int):=by rw[wrap_i64 (by omega) (by omega)];omega
  refine aB (λhx=>?_) (λhx=>?_)
  .have hx:=aT hx
   have hj':j<8:=by omega
   simp only[e1,bT];refine⟨λwq=>Row wq p t ⟨dF ((s.plus x).list.take j++s.list.drop j)⟩/\Row wq q 441 ⟨dF x.list⟩,⟨ho.drew,hn.drew⟩,by omega,by omega,_,λwq hq=>hq.1.at (auJ hj'),by omega,by omega,_,λwq hq=>hq.2.at (LK (l:=x.list) hj'),by omega,by omega,
    ho.drew.Ci ?_,?_⟩
   .simp[dF,S8.list,S8.plus];omega
   simp only[Mp];refine⟨⟨j+1,rfl,by omega,?_,hn.drew.HS IT _ _,hm.drew.setAt (.inl rfl) _ _⟩,by omega⟩;rw[<-asE hj'];exact ho.drew.setAt _ _
  .have hx:=a_ hx
   obtain rfl:j=8:=by omega
   exact⟨rfl,hm,ho⟩
def Y4(n:Nat):(padding n).length=(119-n%64)%64+9:=by rw[<-Rj,Q6 (by omega)]
def asF(s:List UInt8):(s++padding s.length).length=(s++padding s.length).length/64*64:=by rw[aIa,Y4];omega
def auL(s:List UInt8)(hs:s.length<1000000):aH3 QT #[.string (S s)] w (λe w'=>e=.returned (.string (S (gG s)))/\Still w w'):=by
 refine anp _ _ _ ?_;refine acC w 441 aKA ?_;change Calls _ _ _ (aKB w 441 aKA) _;have sW:=abE w 441 aKA;have hm0:Still w (aKB w 441 aKA):=abF (Mod.refl _ _) 441 aKA;generalize aKB w 441 aKA=w0 at sW hm0⊢;refine(ao4 (by omega)).mono ?_;rintro _ w1 ⟨rfl,aId⟩;have hpl:=Y4 s.length;refine .inl ⟨_,rfl,by omega,?_⟩;have hb:=asF s;unfold gG;generalize(s++padding s.length).length/64=N at hb⊢;generalize s++padding s.length=T at hb⊢;have cG:=sW.mod aId (λh=>h);have VV:Still w w1:=Mod.trans hm0 aId (λ_ h=>h) (λ_ _ h=>h);refine⟨λt w2=>∃(n:Nat) (st:S8),t.length=n*64/\Ab n t st=Ab N T aKA/\Row w2 w.heap.size 441 ⟨dF st.list⟩/\Still w w2,λt _=>t.length,⟨N,aKA,hb,rfl,cG,VV⟩,?_⟩;rintro t _ w2 ⟨n,st,hn,hab,hr,hm⟩;refine aB (λhx=>?_) (λhx=>?_)
 .have hx:t≠[]:=by simpa using hx
  obtain⟨m,rfl⟩:∃m,n=m+1:=by
   cases n with
   |zero=>exact(hx (Xx.1 (by omega))).elim
   |succ m=>exact⟨m,rfl⟩
  rw[apO]at hab;have e64:Int.toNat 64=64:=rfl;rw[e64];generalize Ni:comp st (t.take 64)=st' at hab;refine⟨by decide,by omega,(GB hr (t.take 64) (by simp;omega)).mono ?_⟩;rintro _ w3 ⟨rfl,dD,hr3⟩;rw[Ni]at hr3;refine .inl ⟨rfl,by decide,by omega,⟨m,_,?_,hab,hr3,Mod.trans hm dD (λ_ h=>h) (λi hi h=>by omega)⟩,?_⟩
  .show(t.drop 64).length=m*64
   simp;omega
  .show(t.drop 64).length<t.length
   simp;omega
 .have hx:t=[]:=by simpa using hx
  subst hx;obtain rfl:n=0:=by simp at hn;omega
  rw[apN]at hab;rw[<-hab];refine⟨_,_,_,_,_,_,_,_,hr.dY rfl,hr.dY rfl,hr.dY rfl,hr.dY rfl,hr.dY rfl,hr.dY rfl,hr.dY rfl,hr.dY rfl,(aod st).mono ?_⟩;rintro _ w3 ⟨rfl,dD⟩;exact .inl ⟨_,rfl,rfl,Mod.trans hm dD (λ_ h=>h) (λ_ _ h=>h)⟩
end Go.Proofs.YtihaaoehhgmphaaGreatDoor
namespace Go.Proofs.YtihaaoehhgmphaaGreatDoor.L
open IntKind
def aKo{α:Type}(f:Pr α):Prop:=∀s x,f s=.ok x->x.2<:+s
def MQ{σ α:Type}(step:σ->Ts->Rs ((σ×Ts)⊕(α×Ts))):Prop:=∀a s x,step a s=.ok x->match x with
 |.inl y=>y.2<:+s
 |.inr y=>y.2<:+s
def acD{σ α:Type}{step:σ->Ts->Rs ((σ×Ts)⊕(α×Ts))}(hs:MQ step):∀(n:Nat) (a:σ) (s:Ts) (x:α×Ts),many step n a s=.ok x->x.2<:+s
 |0,_,_,_,h=>by cases h
 |n+1,a,s,x,h=>by
  simp only[many]at h;obtain⟨y,h1,h⟩:=Rs.iU h;have h3:=hs _ _ _ h1;cases y with
  |inr y=>injection h with h;subst h;exact h3
  |inl y=>exact(acD hs n _ _ _ h).trans h3
def abG{σ α:Type}{step:σ->Ts->Rs ((σ×Ts)⊕(α×Ts))}(hs:MQ step)(a:σ):aKo (aJG step a):=λs x h=>acD hs _ a s x h
def Dw:∀s:Ts,jM s<:+s
 |[]=>xB _
 |x::r=>by
  simp only[jM];split
  .exact(Dw r).trans (tu _ _)
  .exact xB _
def Lr(s:Ts):s.tail<:+s:=List.tail_suffix s
def adP(c:Bool)(s:Ts):(if c=true then s.tail else s)<:+s:=by
 split
 .exact Lr s
 .exact xB _
def aay:aKo oZ:=by
 intro s x h
 match s with
 |[]=>cases h
 |(k,t)::r=>
  simp only[oZ]at h;split at h
  .obtain⟨l,_,h⟩:=Rs.iU h
   injection h with h;subst h;exact tu _ _
  .cases h
def aaz:aKo uz:=by
 intro s x h
 match s with
 |[]=>cases h
 |(k,t)::r=>simp only[uz]at h;obtain⟨l,h1,h⟩:=Rs.iU h;injection h with h;subst h;exact(aay _ _ h1).trans (tu _ _)
def ZT:MQ pP:=by
 intro a s x h;unfold pP at h;split at h
 .obtain⟨l,h1,h⟩:=Rs.iU h
  injection h with h;subst h;exact aaz _ _ h1
 .split at h
  .split at h
   .split at h<;>(obtain⟨l,h1,h⟩:=Rs.iU h;injection h with h;subst h;exact tu _ _)
   .split at h
    .cases h
    .injection h with h
     subst h;exact xB _
  .split at h
   .cases h
   .injection h with h
    subst h;exact xB _
def apS:aKo aJq:=abG ZT _
def asG{cmd:Pr Nd}(hc:aKo cmd)(neg:Bool):MQ (aJH cmd neg):=by
 intro a s x h;unfold aJH at h;split at h
 .obtain⟨l,h1,h⟩:=Rs.iU h
  injection h with h;subst h;exact(hc _ _ h1).trans ((Dw _).trans (Lr s))
 .injection h with h
  subst h;exact xB _
def abH{cmd:Pr Nd}(hc:aKo cmd):aKo (D6 cmd):=by intro s x h;obtain⟨y,h1,h⟩:=Rs.iU h;exact(abG (asG hc _) _ _ _ h).trans ((hc _ _ h1).trans (adP _ s))
def auM{cmd:Pr Nd}(hc:aKo cmd):aKo (Eo cmd):=abH hc
def Td(L:Nat):aKo (kK L).1/\True:=⟨apS,trivial⟩
def TB(s:Ts):Prop:=s.length<=20000/\∀x∈s,x.2.length<1000000/\x.2≠[]/\x.1<1000/\x∉HR/\123∉x.2
def TB.yQ{s r:Ts}(h:TB s)(hr:r<:+s):TB r:=⟨lH hr.length_le h.1,λx hx=>h.2 x (hr.subset hx)⟩
def TB.head{k:Nat}{t:ag}{r:Ts}(h:TB ((k,t)::r)):t.length<1000000/\t≠[]:=⟨(h.2 (k,t) (by simp)).1,(h.2 (k,t) (by simp)).2.1⟩
def TB.kind{k:Nat}{t:ag}{r:Ts}(h:TB ((k,t)::r)):k<1000:=(h.2 (k,t) (by simp)).2.2.1
def TB.afA{k:Nat}{t:ag}{r:Ts}(h:TB ((k,t)::r)):123∉t:=(h.2 (k,t) (by simp)).2.2.2.2
def TB.tail{x:Nat×ag}{r:Ts}(h:TB (x::r)):TB r:=h.yQ (tu _ _)
def TB.MR{s:Ts}(h:TB s){k:Nat}{t:ag}(ht:(k,t)∈HR):gS k t s=false:=by
 cases hx:gS k t s with
 |false=>rfl
 |true=>rw[Lp hx]at h;exact absurd ht (h.2 _ (by simp)).2.2.2.1
end Go.Proofs.YtihaaoehhgmphaaGreatDoor.L
namespace Go.Proofs.YtihaaoehhgmphaaGreatDoor.L
open IntKind Go.RowKit Vc
def apT(p q:Addr)(w:World):
  CallsD aM 123 #[.pointer (some p),.pointer (some q)] .returning w λe u' w'=>e=.returned (.tuple #[])/\u'=.returning/\w'=w:=by
 refine callsD_of_wpS Tryz.func123 rfl λc₀ cs hu=>?_;apply wpS_seq;apply wpS_region;simp[wpOpsS,go_sem,recoverD,hu,Tryz.ntmps123,Exit.thenS];apply wpS_seq;apply wpS_region;simp[wpOpsS,go_sem,Tryz.ntmps123,Exit.thenS];refine wpS_cond (t:=false) (by simp[Act.eval,Array.replicate]) ?_;simp only[kP,iR];refine wpS_of_wp (wp_skip ?_);cases c₀;simp_all [bodyPostS,results,Tryz.results123]
def aoy(p q:Addr)(n:Int)(w:World)(hp:Wr w p)(hq:Wr (w.drew.setCell p (.slice none 0 0)) q):
  CallsD aM 123 #[.pointer (some p),.pointer (some q)] (.panicking [{v:=.iface 28 (.int .i64 n),recovered:=false}]) w λe u' w'=>e=.returned (.tuple #[])/\settle u'=.returning/\w'=(w.drew.setCell p (.slice none 0 0)).setCell q (.int .i64 n):=by
 refine callsD_of_wpS Tryz.func123 rfl λc₀ cs hu=>?_;apply wpS_seq;apply wpS_region;simp[wpOpsS,go_sem,recoverD,hu,Tryz.ntmps123,Exit.thenS];apply wpS_seq;apply wpS_region;simp[wpOpsS,go_sem,Tryz.ntmps123,Exit.thenS];refine wpS_cond (t:=true) (by simp[Act.eval,Array.replicate]) ?_;simp only[oV];refine wpS_of_wp ?_;have et:(#[Value.pointer (some p),Value.pointer (some q)]++((((Array.replicate 6 undef).setIfInBounds 1 (Value.iface 28 (Value.int i64 n))).setIfInBounds 0 (Value.iface 28 (Value.int i64 n))).setIfInBounds 2 (Value.iface 28 (Value.int i64 n))).setIfInBounds 3 (Value.bool true))=
   ⟨[.pointer (some p),.pointer (some q),.iface 28 (.int .i64 n),.iface 28 (.int .i64 n),.iface 28 (.int .i64 n),.bool true,undef,undef]⟩:=by rfl
 rw[et];refine F7 (P:=aM) (m:=.held) (ds:=[]) (l:=[.pointer (some p),.pointer (some q),.iface 28 (.int .i64 n),.iface 28 (.int .i64 n),.iface 28 (.int .i64 n),.bool true,undef,undef]) (K:=λl' w'=>w'=(w.drew.setCell p (.slice none 0 0)).setCell q (.int .i64 n)) (E:=λ_ _=>False) (Eq.mp (α:=∃Sw:World->Prop,Sw w.drew/\(Wr w.drew p/\Wr (w.drew.setCell p (.slice none 0 0)) q/\(w.drew.setCell p (.slice none 0 0)).setCell q (.int .i64 n)=(w.drew.setCell p (.slice none 0 0)).setCell q (.int .i64 n))/\(Wr w.drew p/\Wr (w.drew.setCell p (.slice none 0 0)) q/\(w.drew.setCell p (.slice none 0 0)).setCell q (.int .i64 n)=(w.drew.setCell p (.slice none 0 0)).setCell q (.int .i64 n))) (by kernel_rfl) ⟨λ_=>True,trivial,⟨hp,hq,rfl⟩,hp,hq,rfl⟩) ?_ ?_
 .rintro l' w' _ rfl
  cases c₀;simp_all [bodyPostS,results,Tryz.results123,act,settle];rfl
 .intro l' c w' _ h
  exact h.elim
def yq(n:Nat)(b:Nat->Bool):Array Bool:=⟨(List.range n).map b⟩
abbrev ir(b:Nat->Bool)(i:Nat):Nat->Bool:=λj=>if j=i then true else b j
def Gn{n:Nat}{b:Nat->Bool}{j:Nat}{d:Bool}(h:j<n):(yq n b).getD j d=b j:=by simp[yq,Fg,h]
def auN{n i:Nat}{b:Nat->Bool}:(yq n b).setIfInBounds i true=yq n (ir b i):=by
 apply jL;simp only[yq,Xq];apply aJc;intro j;rw[Dd];simp only[aIB,List.length_range,vM,ir]
 by_cases hj:i=j
 .subst hj
  simp only[↓reduceIte]
  by_cases hi:i<n
  .simp[hi]
  .simp[hi]
 .rw[aL hj]
  by_cases hi:j<n
  .simp[hi,aKS hj]
  .simp[hi]
def cnt(b:Nat->Bool):Nat->Nat
 |0=>0
 |n+1=>cnt b n+(!b n).toNat
def adQ{b:Nat->Bool}{i:Nat}(hb:b i=false):∀n,i<n->cnt b n=cnt (ir b i) n+1
 |0,h=>by omega
 |n+1,h=>by
  have off:∀m,m<=i->cnt (ir b i) m=cnt b m:=by
   intro m
   induction m with
   |zero=>intro _;rfl
   |succ m ih=>intro hm;have e:ir b i m=b m:=aL (show¬m=i by omega);simp only[cnt,ih (by omega),e]
  simp only[cnt]
  by_cases hn:n=i
  .subst hn
   have e:ir b n n=true:=aR rfl;rw[off n (aW _),hb,e];rfl
  .rw[adQ hb n (by omega)]
   have e:ir b i n=b n:=aL hn;rw[e];omega
def acE{b:Nat->Bool}:∀n,cnt b n=0->∀j,j<n->b j=true
 |0,_,_,h=>by omega
 |n+1,h,j,hj=>by
  simp only[cnt]at h;have hn:b n=true:=by
   cases hb:b n with
   |true=>rfl
   |false=>rw[hb]at h;simp at h
  rcases Nat.lt_succ_iff_lt_or_eq.1 hj with hj|hj
  .exact acE n (by omega) j hj
  .subst hj
   exact hn
def abI:∀n,cnt (λ_=>false) n=n
 |0=>rfl
 |n+1=>by simp[cnt,abI n]
def aq0{P:Program}{ops:Array Oper}{Q:Exit->Act->World->Prop}{n:Nat}(hn:ops.size=n)(I:(Nat->Bool)->Act->World->Prop)
  (hend:∀b a w,I b a w->(∀j,j<n->b j=true)->Q .normal a w)(agE:∀(i:Nat) o,ops[i]?=some o->∀e∈o.after,Region.binds .any e=true->e.on<i)
  (hstep:∀b a w (i:Nat) o,I b a w->ops[i]?=some o->b i=false->(∀e∈o.after,Region.binds .any e=true->b e.on=true)->wpOp P ops Q i (λa' w'=>I (ir b i) a' w') a w):
  ∀fuel b a w,cnt b n=fuel->I b a w->wpAny P .any ops Q fuel (yq n b) a w:=by
 have all:∀b,Region.ready .any ops (yq n b)=[]->∀j,j<n->b j=true:=by
  intro b hr j
  induction j using Nat.strongRecOn with
  |_ j ih=>
   intro hj;cases hb:b j with
   |true=>rfl
   |false=>
    exfalso;have ho:ops[j]?=some ops[j]:=by simp[hn,hj]
    have:j∈Region.ready .any ops (yq n b):=mem_ready.2 ⟨by rw[Gn hj,hb],_,ho,λe he NF=>by have h1:=agE j _ ho e he NF;rw[Gn (by omega)];exact ih _ h1 (by omega)⟩;rw[hr]at this;cases this
 intro fuel
 induction fuel with
 |zero=>
  intro b a w hc hI;have hall:=acE n hc;refine⟨?_,hend b a w hI hall⟩;refine List.eq_nil_iff_forall_not_mem.2 λj hj=>?_;obtain⟨h1,o,ho,_⟩:=mem_ready.1 hj;have hj':j<n:=by rw[<-hn];exact(oP.1 ho).1
  rw[Gn hj',hall j hj']at h1;cases h1
 |succ fuel ih=>
  intro b a w hc hI;refine⟨λhr=>hend b a w hI (all b hr),λi hi=>?_⟩;obtain⟨h1,o,ho,h2⟩:=mem_ready.1 hi;have hi':i<n:=by rw[<-hn];exact(oP.1 ho).1
  rw[Gn hi']at h1;rw[auN];refine wpOp_mono (λa' w' h=>ih _ a' w' ?_ h) (hstep b a w i o hI ho h1 λe he NF=>?_)
  .have:=adQ h1 n hi'
   omega
  .have h3:=h2 e he NF
   have:=agE i o ho e he NF;rwa[Gn (by omega)]at h3
def GC{P:Program}{ops:Array Oper}{Q:Exit->Act->World->Prop}{i:Nat}{o:Oper}{next:Act->World->Prop}{l:Fr}{ds:List Deferred}{w:World}(ho:ops[i]?=some o)(hg:o.guard=none)
  (h:qH P l o w (λv w'=>next (act (put l o.dst v) ds) w') (λ_ _=>False)):wpOp P ops Q i next (act l ds) w:=by
 unfold wpOp;simp only[ho];rw[aR (by simp[Region.wanted,hg])];exact .inl (Gg h (λv w' hk=>by rw[aJB];exact hk) (λc w' he=>he.elim))
def LL{l:Fr}{t:Nat}{v:Value}{K:Value->Prop}(h:l[t]?=some v)(hk:K v):sH l t K:=by
 induction l generalizing t with
 |nil=>cases h
 |cons x l ih=>cases t with
  |zero=>obtain rfl:=bM h;exact hk
  |succ t=>exact ih h
def Aq(w:World)(g:Nat)(es:List (Value×Value)):Prop:=∃ms c,w.heap[g]?=some (.map ms c)/\(ms.toList.map λe=>(e.key,e.val)).Perm es
def aq1{P:Program}{T tk te:TypeId}(hT:P.underlying T=some (.map tk te))(KL:WideMaps.KeyLaw P tk){w:World}{g:Nat}{ms:Array MapEntry}{c:Nat}{key x:Value}{lk:Lit}(hg:w.heap[g]?=some (.map ms c))(hkey:keyOf P tk key=some lk)
  (hall:∀e∈ms.toList,∃l,keyOf P tk e.key=some l)(hne:∀e∈ms.toList,e.key≠key):(Instr.mapUpdate T (.map (some g)) key x).run P w=.ok () (ChangeMaps.setBlock w g (.map (ms.push ⟨key,x,c⟩) (c+1))):=by
 have KL:=Maps.Keyed.of_law KL;rcases KL.find w hkey ms.toList hall with⟨h1,_⟩|⟨j,e0,_,h2,h3⟩
 .simp[Instr.mapUpdate,run_underlying hT,MapKept.run_getObj_map hg,KL.check w false hkey,h1,MapKept.run_setObj_map _ hg,Result.andThen,ChangeMaps.setBlock]
 .exact absurd h3 (hne e0 (tq h2))
def ao6(w:World)(g:Nat)(o:Obj):Mod (λk=>k=g) w (ChangeMaps.setBlock w g o):=
 ⟨rfl,rfl,rfl,by simp[ChangeMaps.setBlock],λk _ hk=>by simp only[ChangeMaps.setBlock];rw[Xj (λe=>hk e.symm)]⟩
structure aeP(P:Program)(ops:Array Oper)(T:TypeId)(key fv:Nat->Value):Prop where
 size:ops.size=17
 ord:∀(i:Nat) o,ops[i]?=some o->∀e∈o.after,Region.binds .any e=true->e.on<i
 o0:∃o T',ops[0]?=some o/\o.guard=none/\o.dst=some 12/\o.op=.makeMap T' none
 ob:∀k,k<7->∃o,ops[2*k+1]?=some o/\o.guard=none/\o.dst=some (13+k)/\∀l w (K:KW),K (key k) w->qH P l o w K (λ_ _=>False)
 oi:∀k,k<7->∃o f,ops[2*k+2]?=some o/\o.guard=none/\o.dst=none/\o.op=.insert T (.tmp 12) (.tmp (13+k)) (.func f)/\fv k=.func (.func f) #[] #[]/\(∃e∈o.after,Region.binds .any e=true/\e.on=0)/\∃e∈o.after,Region.binds .any e=true/\e.on=2*k+1
 om:∃o,ops[15]?=some o/\o.guard=none/\o.dst=some 20/\o.op=.move (.tmp 12)/\∃e∈o.after,Region.binds .any e=true/\e.on=0
 oa:∃o,ops[16]?=some o/\o.guard=none/\o.dst=some 5/\o.op=.assign (.tmp 20)/\∃e∈o.after,Region.binds .any e=true/\e.on=15
abbrev AY:List Nat:=[5,12,13,14,15,16,17,18,19,20]
structure LI(l0:Fr)(w0:World)(key fv:Nat->Value)(b:Nat->Bool)(l:Fr)(w:World):Prop where
 off:cg AY l0 l
 kb:∀k,k<7->b (2*k+1)=true->l[13+k]?=some (key k)
 m0:b 0=false->w=w0/\∀k,k<7->b (2*k+2)=false
 m1:b 0=true->l[12]?=some (.map (some w0.heap.size))/\Still w0 w/\w.heap.size=w0.heap.size+1/\Aq w w0.heap.size (((List.range 7).filter λk=>b (2*k+2)).map λk=>(key k,fv k))
 mm:b 15=true->l[20]?=some (.map (some w0.heap.size))
 ma:b 16=true->l[5]?=some (.map (some w0.heap.size))
def jm{b:Nat->Bool}{i j:Nat}(h:j≠i):ir b i j=b j:=aL h
def aeQ{b:Nat->Bool}{i:Nat}:ir b i i=true:=aR rfl
def LM{l0 l:Fr}{d:Nat}{v:Value}(h:cg AY l0 l)(hd:d∈AY):cg AY l0 (put l (some d) v):=
 h.trans (cg.put l (some d) v) (λ_ h=>h) (λt ht=>by rw[Option.mem_toList]at ht;cases ht;exact hd)
def rz{l:Fr}{d t:Nat}{v:Value}(h:d≠t):(put l (some d) v)[t]?=l[t]?:=pJ h
def put_eq{l:Fr}{d:Nat}{v:Value}(h:d<l.length):(put l (some d) v)[d]?=some v:=qV h
def aq2{b:Nat->Bool}{k:Nat}(hk:k<7)(hb:b (2*k+2)=false):((List.range 7).filter λj=>ir b (2*k+2) (2*j+2)).Perm (((List.range 7).filter λj=>b (2*j+2))++[k]):=by
 have nd:(List.range 7).Nodup:=List.nodup_range;refine(List.perm_ext_iff_of_nodup (nd.filter _) ?_).2 λj=>?_
 .refine PF.2 ⟨nd.filter _,by simp,λa ha c hc=>?_⟩
  obtain rfl:=aIA.1 hc;rintro rfl;rw[P9,hb]at ha;cases ha.2
 .simp only[P9,vS,aIL,aIA]
  by_cases hj:j=k
  .subst hj
   rw[aeQ];simp[hk]
  .rw[jm (by omega)]
   simp[hj]
def axn{P:Program}{ops:Array Oper}{T tk te:TypeId}{key fv:Nat->Value}(hL:aeP P ops T key fv)(hm:P.follows .mixedOrders=true)(hT:P.underlying T=some (.map tk te))(KL:WideMaps.KeyLaw P tk)
  (hkeys:∀k,k<7->∃lk,keyOf P tk (key k)=some lk)(hinj:∀j k,j<7->k<7->key j=key k->j=k){id:Nat}{Q:Exit->Act->World->Prop}{l:Fr}{ds:List Deferred}{w:World}(hl:21<=l.length)
  (hQ:∀l' w',cg AY l l'->l'[5]?=some (.map (some w.heap.size))->Still w w'->w'.heap.size=w.heap.size+1->Aq w' w.heap.size ((List.range 7).map λk=>(key k,fv k))->Q .normal (act l' ds) w'):
  (Code.region id ops true).wp P Q (act l ds) w:=by
 refine wp_region_any hm ?_;have e0:Array.replicate ops.size false=yq 17 (λ_=>false):=by apply jL;rw[hL.size];rfl
 rw[e0];refine aq0 hL.size (λb a w'=>∃l',a=act l' ds/\LI l w.drew key fv b l' w') ?_ hL.ord ?_ _ _ _ _ (by rw[abI,hL.size]) ⟨l,rfl,cg.refl _ _,λ_ _ h=>(by cases h),λ_=>⟨rfl,λ_ _=>rfl⟩,λh=>(by cases h),λh=>(by cases h),λh=>(by cases h)⟩
 .rintro b _ w' ⟨l',rfl,h⟩ hall
  obtain⟨_,h2,h3,h4⟩:=h.m1 (hall 0 (by omega));refine hQ l' w' h.off (h.ma (hall 16 (by omega))) (Still.aeB h2) h3 ?_;have:(List.range 7).filter (λk=>b (2*k+2))=List.range 7:=Fq.2 λk hk=>hall _ (by have:=vS.1 hk;omega);rw[this]at h4;exact h4
 .rintro b _ w' i o ⟨l',rfl,h⟩ ho hb MS
  have hlen:=h.off.1;have hi:i<17:=by rw[<-hL.size];exact(oP.1 ho).1
  have axo:i=0\/(∃k,k<7/\i=2*k+1)\/(∃k,k<7/\i=2*k+2)\/i=15\/i=16:=by
   by_cases AX:i=15
   .exact .inr (.inr (.inr (.inl AX)))
   by_cases aIH:i=16
   .exact .inr (.inr (.inr (.inr aIH)))
   by_cases h0:i=0
   .exact .inl h0
   by_cases h2:i%2=0
   .exact .inr (.inr (.inl ⟨i/2-1,by omega,by omega⟩))
   .exact .inr (.inl ⟨i/2,by omega,by omega⟩)
  rcases axo with rfl|⟨k,hk,rfl⟩|⟨k,hk,rfl⟩|rfl|rfl
  .obtain⟨o',T',ho',hg,hd,hop⟩:=hL.o0
   rw[ho]at ho';obtain rfl:=bM ho';obtain⟨rfl,hno⟩:=h.m0 hb;refine GC ho hg ?_;simp only[qH,hop,hd];refine⟨_,rfl,LM h.off (by simp),λk hk hbk=>?_,λhf=>?_,λ_=>⟨put_eq (by omega),(Mod.refl _ _).alloc _,World.size_alloc ..,?_⟩,λhf=>?_,λhf=>?_⟩
   .rw[jm (by omega)]at hbk
    rw[rz (by omega)];exact h.kb k hk hbk
   .rw[aeQ]at hf
    cases hf
   .have:(List.range 7).filter (λk=>ir b 0 (2*k+2))=[]:=List.filter_eq_nil_iff.2 λk hk=>by
     rw[jm (by omega),hno k (vS.1 hk)];decide
    rw[this];exact⟨#[],0,Array.getElem?_push_size,List.Perm.nil⟩
   .rw[jm (by omega)]at hf
    rw[rz (by omega)];exact h.mm hf
   .rw[jm (by omega)]at hf
    rw[rz (by omega)];exact h.ma hf
  .obtain⟨o',ho',hg,hd,hop⟩:=hL.ob k hk
   rw[ho]at ho';obtain rfl:=bM ho';refine GC ho hg (hop _ _ _ ?_);rw[hd];have hmem:13+k∈AY:=by
    have:k=0\/k=1\/k=2\/k=3\/k=4\/k=5\/k=6:=by omega
    rcases this with rfl|rfl|rfl|rfl|rfl|rfl|rfl<;>simp
   refine⟨_,rfl,LM h.off hmem,λj hj qN=>?_,λhf=>?_,λhf=>?_,λhf=>?_,λhf=>?_⟩
   ·by_cases hjk:j=k
    .subst hjk
     exact put_eq (by omega)
    .rw[jm (by omega)]at qN
     rw[rz (by omega)];exact h.kb j hj qN
   .rw[jm (by omega)]at hf
    obtain⟨e1,e2⟩:=h.m0 hf;exact⟨e1,λj hj=>by rw[jm (by omega)];exact e2 j hj⟩
   .rw[jm (by omega)]at hf
    obtain⟨e1,e2,e3,e4⟩:=h.m1 hf;refine⟨by rw[rz (by omega)];exact e1,e2,e3,?_⟩;have:(List.range 7).filter (λj=>ir b (2*k+1) (2*j+2))=(List.range 7).filter (λj=>b (2*j+2)):=J0 λj _=>jm (by omega);rw[this];exact e4
   .rw[jm (by omega)]at hf
    rw[rz (by omega)];exact h.mm hf
   .rw[jm (by omega)]at hf
    rw[rz (by omega)];exact h.ma hf
  .obtain⟨o',f,ho',hg,hd,hop,hfv,⟨e1,IU,jg,Ii⟩,e2,sX,gE,azk⟩:=hL.oi k hk
   rw[ho]at ho';obtain rfl:=bM ho';have hb0:=MS e1 IU jg;have hbk:=MS e2 sX gE;rw[Ii]at hb0;rw[azk]at hbk;obtain⟨h12,hst,hsz,ms,c,hms,uQ⟩:=h.m1 hb0;have hkk:=h.kb k hk hbk;have hin:∀e∈ms.toList,∃j,j<7/\b (2*j+2)=true/\key j=e.key:=by intro e he;have:(e.key,e.val)∈((List.range 7).filter λk=>b (2*k+2)).map λk=>(key k,fv k):=uQ.mem_iff.1 (eo.2 ⟨e,he,rfl⟩);obtain⟨j,hj,AZ⟩:=eo.1 this;rw[P9,vS]at hj;exact⟨j,hj.1,hj.2,gK Prod.fst AZ⟩
   obtain⟨lk,hlk⟩:=hkeys k hk;have hrun:=aq1 (x:=fv k) hT KL hms hlk (λe he=>by
    obtain⟨j,hj,_,AZ⟩:=hin e he;rw[<-AZ];exact hkeys j hj) (λe he hke=>by
    obtain⟨j,hj,qN,AZ⟩:=hin e he;obtain rfl:=hinj j k hj hk (AZ.trans hke);rw[hb]at qN;cases qN)
   refine GC ho hg ?_;simp only[qH,hop,hd];refine LL h12 (LL hkk ?_);show aIc P T (.map (some w.drew.heap.size)) (key k) (.func (.func f) #[] #[]) w' _
   rw[<-hfv];refine⟨_,hrun,l',rfl,h.off,λj hj qN=>?_,λhf=>?_,λ_=>⟨h12,Mod.trans hst (ao6 _ _ _) (λ_ h=>h) (λi hi e=>by omega),by simpa[ChangeMaps.setBlock]using hsz,?_⟩,λhf=>?_,λhf=>?_⟩
   .rw[jm (by omega)]at qN
    exact h.kb j hj qN
   .rw[jm (by omega),hb0]at hf
    cases hf
   .refine⟨_,_,by simp only[ChangeMaps.setBlock];rw[Array.getElem?_setIfInBounds_self,aR (by omega)],?_⟩
    rw[JZ,qX];refine List.Perm.trans (uQ.append_right _) ?_;have:=(aq2 hk hb).map λk=>(key k,fv k);rw[qX]at this;exact this.symm
   .rw[jm (by omega)]at hf
    exact h.mm hf
   .rw[jm (by omega)]at hf
    exact h.ma hf
  .obtain⟨o',ho',hg,hd,hop,e1,IU,jg,Ii⟩:=hL.om
   rw[ho]at ho';obtain rfl:=bM ho';have hb0:=MS e1 IU jg;rw[Ii]at hb0;have h12:=(h.m1 hb0).1;refine GC ho hg ?_;simp only[qH,sO,hop,hd];refine LL h12 ⟨_,rfl,LM h.off (by simp),λj hj qN=>?_,λhf=>?_,λhf=>?_,λ_=>put_eq (by omega),λhf=>?_⟩
   .rw[jm (by omega)]at qN
    rw[rz (by omega)];exact h.kb j hj qN
   .rw[jm (by omega),hb0]at hf
    cases hf
   .obtain⟨e1,e2,e3,e4⟩:=h.m1 hb0
    refine⟨by rw[rz (by omega)];exact e1,e2,e3,?_⟩;have:(List.range 7).filter (λj=>ir b 15 (2*j+2))=(List.range 7).filter (λj=>b (2*j+2)):=J0 λj _=>jm (by omega);rw[this];exact e4
   .rw[jm (by omega)]at hf
    rw[rz (by omega)];exact h.ma hf
  .obtain⟨o',ho',hg,hd,hop,e1,IU,jg,Ii⟩:=hL.oa
   rw[ho]at ho';obtain rfl:=bM ho';have agF:=MS e1 IU jg;rw[Ii]at agF;have aJa:=h.mm agF;refine GC ho hg ?_;simp only[qH,sO,hop,hd];refine LL aJa ⟨_,rfl,LM h.off (by simp),λj hj qN=>?_,λhf=>?_,λhf=>?_,λhf=>?_,λ_=>?_⟩
   .rw[jm (by omega)]at qN
    rw[rz (by omega)];exact h.kb j hj qN
   .rw[jm (by omega)]at hf
    obtain⟨e1,e2⟩:=h.m0 hf;exact⟨e1,λj hj=>by rw[jm (by omega)];exact e2 j hj⟩
   .rw[jm (by omega)]at hf
    obtain⟨e1,e2,e3,e4⟩:=h.m1 hf;refine⟨by rw[rz (by omega)];exact e1,e2,e3,?_⟩;have:(List.range 7).filter (λj=>ir b 16 (2*j+2))=(List.range 7).filter (λj=>b (2*j+2)):=J0 λj hj=>jm (by have:=vS.1 hj;omega);rw[this];exact e4
   .rw[jm (by omega)]at hf
    rw[rz (by omega)];exact h.mm hf
   .have h5:5<l'.length:=by omega
    exact put_eq h5
def agG(w:World)(es:List (Value×Value))(K:(Nat->Value)->World->Prop):Prop:=
 ∀(us:Nat->Value) (w':World),Still w w'->w'.heap.size=w.heap.size+1->Aq w' w.heap.size es->K us w'
def afB(P:Program)(c:Code)(es:List (Value×Value)):Prop:=
 ∀(Q:Exit->Act->World->Prop) (l:Fr) (ds:List Deferred) (w:World),21<=l.length->(∀l' w',cg AY l l'->l'[5]?=some (.map (some w.heap.size))->Still w w'->w'.heap.size=w.heap.size+1->Aq w' w.heap.size es->Q .normal (act l' ds) w')->c.wp P Q (act l ds) w
def ao7{P:Program}{f:FuncId}{fn:Func}{A B C D:Code}{args:List Value}{w:World}{R:Ending->World->Prop}{es:List (Value×Value)}(pl:nQ)(hC:afB P C es)(hf:P.funcs[f]?=some fn)(hb:fn.body=some (.seq A (.seq B (.seq C D))))(hn:21<=fn.ntmps)
  (h:vc P pl A 2 {kS P fn.results.toList R with normal:=λl1 w1=>vc P pl B 6 {kS P fn.results.toList R with normal:=λl2 w2=>agG w2 es λus w3=>z_ us AY l2 λl3=>wL l3 5 (.map (some w2.heap.size)) λl4=>vc P pl D 15 (kS P fn.results.toList R) l4 w3} l1 w1} (aIP fn.ntmps args) w):Calls P f ⟨args⟩ w R:=by
 refine calls_of_wp hf hb ?_;have e:(Array.mk args)++Array.replicate (fn.ntmps-(Array.mk args).size) undef=⟨aIP fn.ntmps args⟩:=by apply jL;simp[Bv]
 rw[e];have hlen:21<=(aIP fn.ntmps args).length:=by rw[Bv];simp only[aIa,OZ];omega
 have ret:∀l' w',(kS P fn.results.toList R).ret l' w'->bodyPost P fn R .ret (act l' []) w':=λl' w' hk=>by obtain⟨vs,h1,h2⟩:=oU (ds:=[]) hk;exact⟨rfl,_,h1,h2⟩
 have Nn:∀l' w',(kS P fn.results.toList R).normal l' w'->bodyPost P fn R .normal (act l' []) w':=λl' w' hk=>by obtain⟨vs,h1,h2⟩:=oU (ds:=[]) hk;exact⟨rfl,_,h1,h2⟩
 refine wp_seq (aIM (ds:=[]) A 2 _ _ w _ h (λl1 w1 NG hk1=>?_) (λi l' w' _ hk=>hk.elim) (λl' w' hk=>ret l' w' hk) (λl' ch w' _ hk=>⟨rfl,hk⟩));refine wp_seq (aIM (ds:=[]) B 6 _ _ w1 _ hk1 (λl2 w2 Co hk2=>?_) (λi l' w' _ hk=>hk.elim) (λl' w' hk=>ret l' w' hk) (λl' ch w' _ hk=>⟨rfl,hk⟩));refine wp_seq (hC _ _ _ _ (by rw[Co.1,NG.1];exact hlen) λl3 w3 ha3 h5 hst hsz hm=>?_);have h4:=F_ (sp:=[(5,.leaf .raw)]) (vs:=[.map (some w2.heap.size)]) (K:=λl4=>vc P pl D 15 (kS P fn.results.toList R) l4 w3) ha3 ⟨h5,trivial⟩ λus=>hk2 us w3 hst hsz hm;exact aIM (ds:=[]) D 15 _ _ w3 _ h4 (λl' w' _ hk=>Nn l' w' hk) (λi l' w' _ hk=>hk.elim) (λl' w' hk=>ret l' w' hk) (λl' ch w' _ hk=>⟨rfl,hk⟩)
abbrev agH:TypeId:=385
abbrev su:TypeId:=203
def sM(n:Int)(t:List UInt8):Value:=.agg #[.int .i64 n,.string (S t)]
def D7:List (Int×List UInt8×Nat):=[(1,[40],alV),(0,[123],alm),(0,[105,102],ak1),(0,[119,104,105,108,101],XS),(0,[117,110,116,105,108],XS),(0,[102,111,114],alC),(0,[99,97,115,101],aln)]
def aJt(k:Nat):Value:=let x:=D7.getD k (0,[],0);sM x.1 x.2.1
def D8(k:Nat):Value:=.func (.func (D7.getD k (0,[],0)).2.2) #[] #[]
def Mq:List (Value×Value):=(List.range 7).map λk=>(aJt k,D8 k)
noncomputable def L7:Array Oper:=match Tryz.f267.body with
 |some (.seq _ (.seq _ (.seq (.region _ ops _) _)))=>ops
 |_=>#[]
def seven{p:Nat->Prop}(h0:p 0)(h1:p 1)(h2:p 2)(h3:p 3)(h4:p 4)(h5:p 5)(h6:p 6)(k:Nat)(hk:k<7):p k:=by
 have:k=0\/k=1\/k=2\/k=3\/k=4\/k=5\/k=6:=by omega
 rcases this with rfl|rfl|rfl|rfl|rfl|rfl|rfl<;>assumption
def azl(ops:Array Oper):Bool:=(List.range ops.size).all λi=>match ops[i]? with
 |some o=>o.after.toList.all λe=>!(Region.binds .any e)||Nat.blt e.on i
 |none=>true
def auO{ops:Array Oper}(h:azl ops=true):∀(i:Nat) o,ops[i]?=some o->∀e∈o.after,Region.binds .any e=true->e.on<i:=by intro i o ho e he hb;have hi:i<ops.size:=(oP.1 ho).1;have h1:=ql.1 h i (vS.2 hi);rw[ho]at h1;have h2:=ql.1 h1 e (Array.mem_toList_iff.2 he);rw[hb]at h2;simpa using h2
set_option maxRecDepth 100000 in
def av6:aeP aM L7 385 aJt D8 where
 size:=rfl
 ord:=auO (by kernel_rfl)
 o0:=⟨_,_,rfl,rfl,rfl,rfl⟩
 ob:=seven (p:=λk=>∃o,L7[2*k+1]?=some o/\o.guard=none/\o.dst=some (13+k)/\∀l w (K:KW),K (aJt k) w->qH aM l o w K (λ_ _=>False))
  ⟨_,rfl,rfl,rfl,λl w K h=>Eq.mp (by kernel_rfl) h⟩ ⟨_,rfl,rfl,rfl,λl w K h=>Eq.mp (by kernel_rfl) h⟩ ⟨_,rfl,rfl,rfl,λl w K h=>Eq.mp (by kernel_rfl) h⟩ ⟨_,rfl,rfl,rfl,λl w K h=>Eq.mp (by kernel_rfl) h⟩ ⟨_,rfl,rfl,rfl,λl w K h=>Eq.mp (by kernel_rfl) h⟩ ⟨_,rfl,rfl,rfl,λl w K h=>Eq.mp (by kernel_rfl) h⟩ ⟨_,rfl,rfl,rfl,λl w K h=>Eq.mp (by kernel_rfl) h⟩
 oi:=seven (p:=λk=>∃o f,L7[2*k+2]?=some o/\o.guard=none/\o.dst=none/\o.op=.insert 385 (.tmp 12) (.tmp (13+k)) (.func f)/\D8 k=.func (.func f) #[] #[]/\(∃e∈o.after,Region.binds .any e=true/\e.on=0)/\∃e∈o.after,Region.binds .any e=true/\e.on=2*k+1)
  ⟨_,_,rfl,rfl,rfl,rfl,rfl,⟨_,oR (i:=0) rfl,rfl,rfl⟩,_,oR (i:=1) rfl,rfl,rfl⟩ ⟨_,_,rfl,rfl,rfl,rfl,rfl,⟨_,oR (i:=0) rfl,rfl,rfl⟩,_,oR (i:=1) rfl,rfl,rfl⟩ ⟨_,_,rfl,rfl,rfl,rfl,rfl,⟨_,oR (i:=0) rfl,rfl,rfl⟩,_,oR (i:=1) rfl,rfl,rfl⟩ ⟨_,_,rfl,rfl,rfl,rfl,rfl,⟨_,oR (i:=0) rfl,rfl,rfl⟩,_,oR (i:=1) rfl,rfl,rfl⟩ ⟨_,_,rfl,rfl,rfl,rfl,rfl,⟨_,oR (i:=0) rfl,rfl,rfl⟩,_,oR (i:=1) rfl,rfl,rfl⟩ ⟨_,_,rfl,rfl,rfl,rfl,rfl,⟨_,oR (i:=0) rfl,rfl,rfl⟩,_,oR (i:=1) rfl,rfl,rfl⟩ ⟨_,_,rfl,rfl,rfl,rfl,rfl,⟨_,oR (i:=0) rfl,rfl,rfl⟩,_,oR (i:=1) rfl,rfl,rfl⟩
 om:=⟨_,rfl,rfl,rfl,rfl,_,oR (i:=0) rfl,rfl,rfl⟩
 oa:=⟨_,rfl,rfl,rfl,rfl,_,oR (i:=0) rfl,rfl,rfl⟩
def adR:WideMaps.KeyLaw aM 203:=deep_law (m:=3) (by decide) (by kernel_rfl) (by kernel_rfl) (by kernel_rfl)
end Go.Proofs.YtihaaoehhgmphaaGreatDoor.L
namespace Go.Proofs.YtihaaoehhgmphaaGreatDoor.L
open IntKind Go.RowKit Vc
variable{w:World}
def keyLits_int{d:Nat}{t:TypeId}{n:Int}(ht:Tryz.prog.underlying t=some (.int .i64))(hn:(Lit.int .i64 n).wf=true):Tryz.prog.keyLits (d+1) t [.int .i64 n]=some [.int .i64 n]:=by unfold Program.keyLits;rw[ht];simp[hn]
def apU{d:Nat}{t:TypeId}{s:List UInt8}(ht:Tryz.prog.underlying t=some .string)(hs:(S s).size<=maxLen):∃l,Tryz.prog.keyLits (d+1) t [.string (S s)]=some l:=by unfold Program.keyLits;rw[ht];exact⟨_,aR hs⟩
set_option maxRecDepth 100000 in
def aq3:∃f1 f2:Field,Tryz.prog.underlying su=some (.struct #[f1,f2])/\f1.offset=0/\f2.offset=1/\Tryz.prog.underlying f1.type=some (.int .i64)/\Tryz.prog.underlying f2.type=some .string/\Tryz.prog.cellsOf f1.type=1/\Tryz.prog.cellsOf f2.type=1/\(#[f1,f2].all (·.name != "_"))=true:=
 ⟨_,_,rfl,rfl,rfl,rfl,rfl,rfl,rfl,by simp⟩
def aK8{n:Int}{t:List UInt8}(hn:(Lit.int .i64 n).wf=true)(ht:(S t).size<=maxLen):∃lk,keyOf aM su (sM n t)=some lk:=by
 obtain⟨f1,f2,hu,e1,e2,u1,u2,c1,c2,ha⟩:=aq3;have hk:Tryz.prog.keyType su=true:=by kernel_rfl
 have hc:Tryz.prog.cellsOf su=2:=by kernel_rfl
 have hf:(sM n t).formed aM su=true:=by simp only[sM,Value.formed,hu,hc];rfl
 obtain⟨l2,h2⟩:=apU (d:=Tryz.prog.types.size-1) u2 ht;have h1:=keyLits_int (d:=Tryz.prog.types.size-1) u1 hn;have hsz:Tryz.prog.types.size=Tryz.prog.types.size-1+1:=by
  have:0<Tryz.prog.types.size:=XW λh=>by
   have hx:Nat.ble 1 Tryz.prog.types.size=true:=by kernel_rfl
   rw[h]at hx;cases hx
  omega
 have hl:∃ls,Tryz.prog.keyLits (Tryz.prog.types.size+1) su [.int .i64 n,.string (S t)]=some ls:=by
  have e0:Tryz.prog.keyLits (Tryz.prog.types.size+1) su [.int .i64 n,.string (S t)]=([f1,f2].mapM λf=>Tryz.prog.keyLits Tryz.prog.types.size f.type ((([Value.int .i64 n,.string (S t)]:List Value).drop f.offset).take (Tryz.prog.cellsOf f.type))).map List.flatten:=by
   conv=>lhs;unfold Program.keyLits
   rw[hu];exact aR ⟨by rw[hc];rfl,ha⟩
  refine⟨([[.int .i64 n],l2]:List (List Lit)).flatten,e0.trans ?_⟩;rw[aKt,e1,c1];have a1:Tryz.prog.keyLits Tryz.prog.types.size f1.type [.int .i64 n]=some [.int .i64 n]:=by rw[hsz];exact h1
  have a2:Tryz.prog.keyLits Tryz.prog.types.size f2.type [.string (S t)]=some l2:=by rw[hsz];exact h2
  have b2:([f2].mapM λf=>Tryz.prog.keyLits Tryz.prog.types.size f.type ((([Value.int .i64 n,.string (S t)]:List Value).drop f.offset).take (Tryz.prog.cellsOf f.type)))=some [l2]:=by
   rw[aKt,e2,c2];show(do let y<-Tryz.prog.keyLits Tryz.prog.types.size f2.type [.string (S t)];_)=_
   rw[a2];rfl
  rw[b2];show Option.map List.flatten (do let y<-Tryz.prog.keyLits Tryz.prog.types.size f1.type [.int .i64 n];_)=_
  rw[a1];rfl
 obtain⟨ls,hl⟩:=hl;unfold keyOf;rw[hu];exact⟨.string (keyBytes ls),(aR (by rw[hk,hf];rfl)).trans (by show Option.map _ (Tryz.prog.keyLits (Tryz.prog.types.size+1) su [.int .i64 n,.string (S t)])=_;rw[hl];rfl)⟩
def axp{n:Nat}(h:n<1000):(Lit.int .i64 (n:Int)).wf=true:=by
 have e1:i64.min= -9223372036854775808:=by decide
 have e2:i64.max=9223372036854775807:=by decide
 simp only[Lit.wf,e1,e2,eC,kQ];omega
def acF(k:Nat)(hk:k<7):∃lk,keyOf aM su (aJt k)=some lk:=
 seven (p:=λk=>∃lk,keyOf aM su (aJt k)=some lk) (aK8 (by decide) (by decide)) (aK8 (by decide) (by decide)) (aK8 (by decide) (by decide)) (aK8 (by decide) (by decide)) (aK8 (by decide) (by decide)) (aK8 (by decide) (by decide)) (aK8 (by decide) (by decide)) k hk
def acG{n m:Int}{s t:List UInt8}(h:sM n s=sM m t):n=m/\s=t:=by simp only[sM,Value.agg.injEq]at h;have h:=gK Array.toList h;simp only[List.cons.injEq,Value.int.injEq,Value.string.injEq,true_and,and_true]at h;refine⟨h.1,?_⟩;have:=gK ByteArray.toList h.2;simpa[xN]using this
set_option maxRecDepth 100000 in
def av7(j k:Nat)(hj:j<7)(hk:k<7)(h:aJt j=aJt k):j=k:=by
 have h:=acG h;have key:∀j,j<7->∀k,k<7->(D7.getD j (0,[],0)).1=(D7.getD k (0,[],0)).1/\(D7.getD j (0,[],0)).2.1=(D7.getD k (0,[],0)).2.1->j=k:=by decide
 exact key j hj k hk h
noncomputable def av8:Code:=.region 3 L7 true
set_option maxRecDepth 100000 in
def av9:afB aM av8 Mq:=λQ l ds w hl h=>axn av6 rfl rfl adR acF av7 hl h
set_option maxRecDepth 100000 in
def auP{g n:Nat}{t:List UInt8}{K:Value->Bool->Prop}(hm:Aq w g Mq)(hn:n<1000)(ht:t.length<1000000)(h1:∀j,j<7->aJt j=sM n t->K (D8 j) true)(h2:(∀j,j<7->aJt j≠sM n t)->K .nilFunc false):
  Ah aM agH (.map (some g)) (sM n t) w K:=by
 obtain⟨ms,c,hg,hp⟩:=hm;obtain⟨te,hT,hz⟩:∃te,Tryz.prog.underlying agH=some (.map su te)/\∀w,(zeroValue te).run aM w=.ok .nilFunc w:=by refine⟨_,rfl,λw=>?_⟩;rfl
 obtain⟨lk,hlk⟩:=aK8 (n:=n) (t:=t) (axp hn) (by simp only[maxLen];show t.length<=_;omega);have KL:=Maps.Keyed.of_law adR;have hin:∀e∈ms.toList,∃j,j<7/\aJt j=e.key/\D8 j=e.val:=by intro e he;have:(e.key,e.val)∈Mq:=hp.mem_iff.1 (eo.2 ⟨e,he,rfl⟩);obtain⟨j,hj,AZ⟩:=eo.1 this;rw[vS]at hj;exact⟨j,hj,gK Prod.fst AZ,gK Prod.snd AZ⟩
 have hall:∀e∈ms.toList,∃l,keyOf aM su e.key=some l:=λe he=>by obtain⟨j,hj,e1,_⟩:=hin e he;rw[<-e1];exact acF j hj
 rcases KL.find w hlk ms.toList hall with⟨f1,f2⟩|⟨j,e0,f1,f2,f3⟩
 .refine⟨.nilFunc,false,by simp[Instr.lookup,run_underlying hT,MapKept.run_getObj_map hg,KL.check w _ hlk,f1,hz,Result.andThen],h2 λj hj e=>?_⟩
  have:(aJt j,D8 j)∈ms.toList.map λe=>(e.key,e.val):=hp.mem_iff.2 (eo.2 ⟨j,vS.2 hj,rfl⟩);obtain⟨e0,aKp,ee⟩:=eo.1 this;exact f2 e0 aKp ((gK Prod.fst ee).trans e)
 .obtain⟨j,hj,e1,e2⟩:=hin e0 (tq f2)
  refine⟨e0.val,true,by simp[Instr.lookup,run_underlying hT,MapKept.run_getObj_map hg,KL.check w _ hlk,f1,Result.andThen],?_⟩;rw[<-e2];exact h1 j hj (e1.trans f3)
end Go.Proofs.YtihaaoehhgmphaaGreatDoor.L
namespace Go.Proofs.YtihaaoehhgmphaaGreatDoor.L
open IntKind Go.RowKit Vc
set_option maxRecDepth 100000
variable(w:zW)(R:zE)
def aj_(p:zO)(depth:Int)(aD:zM w [zI 0,zB false,zS [],zN,zN,zN,zN,zN] 66 λw1=>ak (decide (30<depth)) (R (.panicked [{v:=(.iface 28 (zI 2)),recovered:=false}]) w1) (agG w1 Mq (λus w2=>qz aJP [zP p,zI 0] w2 R λaIb oy w3=>Ah aM 385 (.map (some w1.heap.size)) (.agg #[zI aIb,zS oy]) w3 (λlv ok=>iI (λxJ=>ak ok (gN lv (λg first cap=>ak (dP aM g) (aH3 g ⟨first++([zP p,zI depth]++cap)⟩ w3 (λcV w4=>(∃(rf:Int)(nR:Bool)(rName:zT)(nG:zO)(aIO nD:Nat)(ny:zO)(nu nv:Nat)(nE:zO)(nA nB:Nat)(nS:zO)(nK nL:Nat)(nM:zO)(nH nI:Nat),cV=.returned (.agg #[zI rf,zB nR,zS rName,zL nG aIO nD,zL ny nu nv,zL nE nA nB,zL nS nK nL,zL nM nH nI])/\zX w4 [zI 0,zB false,zS [],zN,zN,zN,zN,zN] 66 [zI rf,zB nR,zS rName,zL nG aIO nD,zL ny nu nv,zL nE nA nB,zL nS nK nL,zL nM nH nI] λw6=>sQ w6 λxI m w7=>eE JA [zP p] w7 R λr w8=>ak r (zH w8.drew λSw=>gi Sw (zA w4 5) λv vL vC=>agh Fm [zP p] w8.drew R λyM xY xR xS w9=>Sw w9/\zM w9 [zS yM,zL xY xR xS] 138 λaO=>Sw aO/\dA aO 138 2 40 v vL vC (some (zA w9 0)) 1 (λp1 cp aX=>zC (zA w4 5) aX [zL p1 (vL+1) cp] λaH4=>xI aH4/\m aH4<m w7)) (iJ w8 w4.heap.size λcF fO cI fH fE fF fB fy fA fG aIn aIo fP fK aIp fM fI fJ=>zC (zA w 0) w8 [zI cF,zB fO,zS cI,zL fH fE fF,zL fB fy fA,zL fG aIn aIo,zL fP fK aIp,zL fM fI fJ] λbl=>iJ bl w.heap.size λaIi kE eP kj kf kg j9 j7 j8 ki j_ ke kF kz kA kB ko kr=>zR R (.agg #[zI aIi,zB kE,zS eP,zL kj kf kg,zL j9 j7 j8,zL ki j_ ke,zL kF kz kA,zL kB ko kr]) bl))\/(∃gR,cV=.panicked gR/\R (.panicked gR) w4))) False)) (fQ (λaY=>eW Ka [] w3 R λr1 rL rC bH=>eE vN [zP p,zI 0,zL r1 rL rC] bH R λr2 bQ=>ak r2 (aY r2 bQ) (zM bQ [zS [33]] 9 λbW=>eE vN [zP p,zI 0,zL (some (zA bQ 0)) 1 1] bW R λr3 aH_=>aY r3 aH_)) λx cB=>ak x (R (.panicked [{v:=(.iface 28 (zI 100)),recovered:=false}]) cB) (fQ (λfY=>qz aJP [zP p,zI 0] cB R λHg TK dM=>ak (decide (Hg=0)) (qz aJP [zP p,zI 0] dM R λaGq axq eF=>eE FU [zS axq] eF R λr4 eL=>ak r4 (qz aJP [zP p,zI 1] eL R λaxr axt aIf=>ak ((decide (axr=1))&&((decide (axt=[40]))&&true)) (qz aJP [zP p,zI 2] aIf R λaxu axv kI=>fY ((decide (axu=1))&&((decide (axv=[41]))&&true)) kI) (fY false aIf)) (fY false eL)) (fY false dM)) λx1 je=>ak x1 (Cc akh [zP p,zI depth] je R λaxw HF Hh GS Gu Gv Gi Ga Gb Gw Gj Gk HG Hi Hj Hl GU GV mZ=>zC (zA w 0) mZ [zI axw,zB HF,zS Hh,zL GS Gu Gv,zL Gi Ga Gb,zL Gw Gj Gk,zL HG Hi Hj,zL Hl GU GV] λoE=>iJ oE w.heap.size λmO uI kV tV tN tO tH tB aJQ tP tI tJ uJ aJX uq aJY tW tX=>zR R (.agg #[zI mO,zB uI,zS kV,zL tV tN tO,zL tH tB aJQ,zL tP tI tJ,zL uJ aJX uq,zL aJY tW tX]) oE) (xJ je)))) λpq=>Cc O3 [zP p] pq R λaxx aye axy av_ auQ auR asH aq4 aq5 auS asI asJ ayf axz axA axB awa awb vi=>zC (zA w 0) vi [zI axx,zB aye,zS axy,zL av_ auQ auR,zL asH aq4 aq5,zL auS asI asJ,zL ayf axz axA,zL axB awa awb] λIK=>iJ IK w.heap.size λq_ uK pS tY tQ tR tK tD aJR aJS tL tM uL uu aJZ aJ0 tZ t_=>zR R (.agg #[zI q_,zB uK,zS pS,zL tY tQ tR,zL tK tD aJR,zL aJS tL tM,zL uL uu aJZ,zL aJ0 tZ t_]) IK)))):aH3 JG #[zP p,zI depth] w R:=
 ao7 {live:=[(31,[]),(3988,[]),(499,[(44,(.leaf .bool))]),(1999,[(52,(.leaf .bool))])],ja:=[(8,.held)]} av9 Tryz.func267 rfl (by decide) (Eq.mp (by kernel_rfl) aD)
end Go.Proofs.YtihaaoehhgmphaaGreatDoor.L
namespace Go.Proofs.YtihaaoehhgmphaaGreatDoor.L
open IntKind Go.RowKit Vc
def EL(t t':ag):Prop:=∀c r',t'=c::r'->(c=40\/c=123)->∃r,t=c::r
def EL.head(c:UInt8)(t t':ag):EL (c::t) (c::t'):=λd r' h _=>⟨t,by injection h with h1 h2;rw[h1]⟩
def EL.app{t t':ag}(h:EL t t'):∀y:ag,EL (y++t) (y++t')
 |[]=>h
 |c::y=>EL.head c _ _
end Go.Proofs.YtihaaoehhgmphaaGreatDoor.L
namespace Go.Proofs.YtihaaoehhgmphaaGreatDoor.D
open IntKind Go.RowKit Vc
structure St where
 n:Nat
 F:Nat->UInt8
 e:Bool
 p:Int
 m:Int
structure yR(w:World)(g b:Nat)(s:St):Prop where
 top:Row w g am7 #[.slice (some ⟨b,0,none⟩) s.n s.n,.bool s.e,.int .i64 s.p,.int .u64 s.m]
 bytes:Row w b am8 ⟨BO s.F (s.n*64)⟩
structure St.Ok(s:St):Prop where
 n1:1<=s.n
 n2:s.n<=4096
 p0:0<=s.p
 p1:s.p<9223372036854775808
 m0:0<=s.m
 m1:s.m<18446744073709551616
variable{w:World}{g b h q:Nat}{s:St}
def yR.mod{w':World}{T:Nat->Prop}(d:yR w g b s)(hm:Mod T w w')(h1:¬T g)(h2:¬T b):yR w' g b s:=⟨d.top.mod hm h1,d.bytes.mod hm h2⟩
def aoe(d:yR w g b s)(k:Int):aH3 PO #[.pointer (some ⟨g,0,none⟩),.int .i64 k] w
  (λe w'=>e=.returned (.pointer (if 0<=k/\k<s.n then some ⟨b,k.toNat*64,none⟩else none))/\w'=w):=by
 refine alw _ _ _ _ ?_;refine aB (λh=>?_) (λh=>⟨_,_,_,d.top.dY rfl,?_⟩)
 .rw[aL (by have:=aT h;omega)];exact⟨rfl,rfl⟩
 .have h0:=a_ h
  refine aB (λh=>?_) (λh=>⟨_,_,_,d.top.dY rfl,by omega,by have:=a_ h;omega,?_⟩)
  .rw[aL (by have:=aT h;omega)];exact⟨rfl,rfl⟩
  .rw[aR (by have:=a_ h;omega)]
   exact⟨by simp[bR],rfl⟩
def anu(d:yR w g b s)(k:Int):aH3 JU #[.pointer (some ⟨g,0,none⟩),.int .i64 k] w
  (λe w'=>e=.returned (if 0<=k/\k<s.n then .tuple #[.string (S (ym s.F (k.toNat*64) 64)),.int .i64 0]else .tuple #[.string (S []),.int .i64 1])/\w'=w):=by
 refine akT _ _ _ _ ?_;refine(aoe d k).mono ?_;rintro _ w' ⟨rfl,rfl⟩;refine .inl ⟨_,rfl,?_⟩
 by_cases hk:0<=k/\k<s.n
 .rw[aR hk,aR hk]
  refine⟨_,aqH d.bytes (by omega),rfl,rfl⟩
 .rw[aL hk,aL hk]
  exact⟨rfl,rfl⟩
def St.limit(s:St)(n m:Int):St:={s with e:=false,p:=if 0>n then 0 else n,m:=m}
def ayg(F T:Nat->UInt8)(m:Int)(o x:Nat):Nat->UInt8:=λj=>if o<=j/\j<o+x/\bit m (j-o)=true then T (j-o)else F j
def St.put(s:St)(k:Nat)(t:Nat->UInt8):St:={s with F:=λj=>if k*64<=j/\j<k*64+64 then t (j-k*64)else s.F j}
def St.write(s:St)(k:Int)(text:List UInt8):Int×St:=
 if 0<=k/\k<s.n/\text.length<=64 then
  if s.e then(0,s.put k.toNat λj=>text.getD j 0)
  else if 0<s.p then(0,{s.put k.toNat (λj=>text.getD j 0)with p:=s.p-1})
  else(13,{s with F:=ayg s.F (λj=>text.getD j 0) s.m (k.toNat*64) 64,m:=0})
 else(1,s)
def St.new(n:Nat):St:=⟨n,λ_=>0,true,0,0⟩
def aof(z:List Value)(hz:∀v∈z,v=.int .u8 0)(h0:z≠[])(N:Nat):madeCells ⟨z⟩ N=⟨BO (λ_=>0) N⟩:=by
 apply jL;apply aJc;intro i
 by_cases h:i<N
 .have hl:0<z.length:=by cases z with
   |nil=>exact(h0 rfl).elim
   |cons a r=>simp
  have hm:i%z.length<z.length:=FZ _ hl;rw[aaa h];simp[madeCells,h];simp[hm];exact hz _ (ou _)
 .rw[th (by simp[madeCells];omega),th (by simp;omega)]
def anP{n:Int}(h1:1<=n)(h2:n<=4096):aH3 QM #[.int .i64 n] w
  (λe w'=>∃g b,e=.returned (.tuple #[.pointer (some ⟨g,0,none⟩),.int .i64 0])/\Mod (λ_=>False) w w'/\w.heap.size<=g/\w.heap.size<=b/\yR w' g b (St.new n.toNat)):=by
 refine anh _ _ _ ?_;refine aB (λh=>(by have:=aT h;omega)) (λ_=>aB (λh=>(by have:=aT h;omega)) (λ_=>⟨by omega,by omega,by omega,by omega,?_⟩));rw[aof _ (by intro v hv;simpa using hv) (by simp)];refine⟨_,w.heap.size,rfl,((Mod.refl _ _).alloc _).alloc _,by simp,aW _,?_,?_⟩
 .exact Row.new _ _ _
 .exact(Row.new w _ _).alloc _
end Go.Proofs.YtihaaoehhgmphaaGreatDoor.D
namespace Go.Proofs.YtihaaoehhgmphaaGreatDoor.A
open IntKind Go.RowKit Vc
def aq6(p q r:Addr)(w:World):
  CallsD aM 21 #[.pointer (some p),.pointer (some q),.pointer (some r)] .returning w λe u' w'=>e=.returned (.tuple #[])/\u'=.returning/\w'=w:=by
 refine callsD_of_wpS Tryz.func21 rfl λc₀ cs hu=>?_;apply wpS_seq;apply wpS_region;simp[wpOpsS,go_sem,recoverD,hu,Tryz.ntmps21,Exit.thenS];apply wpS_seq;apply wpS_region;simp[wpOpsS,go_sem,Tryz.ntmps21,Exit.thenS];refine wpS_cond (t:=false) (by simp[Act.eval,Array.replicate]) ?_;simp only[kP,iR];refine wpS_of_wp (wp_skip ?_);cases c₀;simp_all [bodyPostS,results,Tryz.results21]
end Go.Proofs.YtihaaoehhgmphaaGreatDoor.A
namespace Go.Proofs.YtihaaoehhgmphaaGreatDoor.L.U
open IntKind
def HT(sep:ag):List ag->ag
 |[]=>[]
 |x::r=>x++r.flatMap λy=>sep++y
end Go.Proofs.YtihaaoehhgmphaaGreatDoor.L.U
namespace Go.Proofs
open Go.Shelf
def Tryz.lays165_ren:Go.Shelf.Ren:=⟨λ|165=>151|240=>108|241=>209|276=>163|277=>276|n=>n,λ|70=>84|3=>3|0=>0|4=>4|9=>9|20=>20|72=>86|37=>22|164=>230|5=>5|n=>n,λ|n=>n⟩
def Tryz.lays165:Go.Proofs.Lays.n165 aM Tryz.lays165_ren:={
 mixed:=by kernel_rfl
 f165:=bg Tryz.func151
 f240:=bg Tryz.func108
 f241:=bg Tryz.func209
 f276:=bg Tryz.func163
 f277:=bg Tryz.func276
 t0:=Tryz.underlying0
 a0:=Tryz.isAgg0
 z0:=Tryz.sizeOf0
 v0:=Tryz.zeroValue0
 t3:=Tryz.underlying3
 a3:=Tryz.isAgg3
 z3:=Tryz.sizeOf3
 v3:=Tryz.zeroValue3
 t4:=Tryz.underlying4
 a4:=Tryz.isAgg4
 z4:=Tryz.sizeOf4
 v4:=Tryz.zeroValue4
 t9:=Tryz.underlying9
 a9:=Tryz.isAgg9
 z9:=Tryz.sizeOf9
 v9:=Tryz.zeroValue9
 t20:=Tryz.underlying20
 a20:=Tryz.isAgg20
 z20:=Tryz.sizeOf20
 v20:=Tryz.zeroValue20
 t37:=Tryz.underlying22
 a37:=Tryz.isAgg22
 z37:=Tryz.sizeOf22
 v37:=Tryz.zeroValue22
 t70:=Tryz.underlying84
 a70:=Tryz.isAgg84
 z70:=Tryz.sizeOf84
 v70:=Tryz.zeroValue84
 t72:=Tryz.underlying86
 a72:=Tryz.isAgg86
 z72:=Tryz.sizeOf86
 v72:=Tryz.zeroValue86
 t164:=Tryz.underlying230
 a164:=Tryz.isAgg230
 z164:=Tryz.sizeOf230
 v164:=Tryz.zeroValue230}
def Tryz.am4:Builder.Extra aM Tryz.lays165_ren:={
 sizeBuilder:=by kernel_rfl
 liesBuilder:=by kernel_rfl
 t5:=Tryz.underlying5
 a5:=Tryz.isAgg5
 z5:=Tryz.sizeOf5
 v5:=Tryz.zeroValue5
 infoByte:=by kernel_rfl
 cellsByte:=by kernel_rfl
 sizeByte:=by kernel_rfl
 neB5:=by decide}
open Go.RowKit in
def Tryz.Builder_Grow_fresh(B b n:Nat)(w:World)(hB:B<=b)(hbk:w.heap[b]?=some (.cells #[.pointer none,.slice none 0 0] 86 (0,0)))(hBw:B<=w.heap.size)(hn:n<=281474976710656):
  aH3 151 #[.pointer (some ⟨b,0,none⟩),.int .i64 n] w λe w'=>e=.returned (.tuple #[])/\(Lib.BuilderAt 86 5 B b (.pointer (some ⟨b,0,none⟩)) [] w'/\Below B w w'):=Any.Builder_Grow_fresh Tryz.lays165 Tryz.am4 B b n w hB hbk hBw hn
def Tryz.lays156_ren:Go.Shelf.Ren:=⟨λ|156=>83|165=>151|166=>40|169=>43|240=>108|241=>209|276=>163|277=>276|n=>n,λ|31=>25|9=>9|3=>3|4=>4|0=>0|20=>20|72=>86|76=>89|70=>84|37=>22|75=>88|127=>174|164=>230|5=>5|80=>73|n=>n,λ|n=>n⟩
def Tryz.lays156:Go.Proofs.Lays.n156 aM Tryz.lays156_ren:={
 mixed:=by kernel_rfl
 f156:=bg Tryz.func83
 f165:=bg Tryz.func151
 f166:=bg Tryz.func40
 f169:=bg Tryz.func43
 f240:=bg Tryz.func108
 f241:=bg Tryz.func209
 f276:=bg Tryz.func163
 f277:=bg Tryz.func276
 t0:=Tryz.underlying0
 a0:=Tryz.isAgg0
 z0:=Tryz.sizeOf0
 v0:=Tryz.zeroValue0
 t3:=Tryz.underlying3
 a3:=Tryz.isAgg3
 z3:=Tryz.sizeOf3
 v3:=Tryz.zeroValue3
 t4:=Tryz.underlying4
 a4:=Tryz.isAgg4
 z4:=Tryz.sizeOf4
 v4:=Tryz.zeroValue4
 t9:=Tryz.underlying9
 a9:=Tryz.isAgg9
 z9:=Tryz.sizeOf9
 v9:=Tryz.zeroValue9
 t20:=Tryz.underlying20
 a20:=Tryz.isAgg20
 z20:=Tryz.sizeOf20
 v20:=Tryz.zeroValue20
 t31:=Tryz.underlying25
 a31:=Tryz.isAgg25
 z31:=Tryz.sizeOf25
 v31:=Tryz.zeroValue25
 t37:=Tryz.underlying22
 a37:=Tryz.isAgg22
 z37:=Tryz.sizeOf22
 v37:=Tryz.zeroValue22
 t70:=Tryz.underlying84
 a70:=Tryz.isAgg84
 z70:=Tryz.sizeOf84
 v70:=Tryz.zeroValue84
 t72:=Tryz.underlying86
 a72:=Tryz.isAgg86
 z72:=Tryz.sizeOf86
 v72:=Tryz.zeroValue86
 t75:=Tryz.underlying88
 a75:=Tryz.isAgg88
 z75:=Tryz.sizeOf88
 v75:=Tryz.zeroValue88
 t76:=Tryz.underlying89
 a76:=Tryz.isAgg89
 z76:=Tryz.sizeOf89
 v76:=Tryz.zeroValue89
 t127:=Tryz.underlying174
 a127:=Tryz.isAgg174
 z127:=Tryz.sizeOf174
 v127:=Tryz.zeroValue174
 t164:=Tryz.underlying230
 a164:=Tryz.isAgg230
 z164:=Tryz.sizeOf230
 v164:=Tryz.zeroValue230}
def Tryz.YC:Builder.Extra aM Tryz.lays156_ren:={
 sizeBuilder:=by kernel_rfl
 liesBuilder:=by kernel_rfl
 t5:=Tryz.underlying5
 a5:=Tryz.isAgg5
 z5:=Tryz.sizeOf5
 v5:=Tryz.zeroValue5
 infoByte:=by kernel_rfl
 cellsByte:=by kernel_rfl
 sizeByte:=by kernel_rfl
 neB5:=by decide}
open Go.RowKit in
def Tryz.strings_Join_none(a:Option Addr)(c:Nat)(sep:ByteArray)(w:World):
  aH3 83 #[.slice a 0 c,.string sep] w λe w'=>e=.returned (.string ⟨#[]⟩)/\w'=w:=Any.strings_Join_none Tryz.lays156 Tryz.YC a c sep w
open Go.RowKit in
def Tryz.strings_Join(bk o c:Nat)(xs:List ByteArray)(sep:ByteArray)(w:World)(hcells:∀(j:Nat) x,xs[j]?=some x->w.cell? ⟨bk,o+j,none⟩=some (.string x))(hbk:bk<w.heap.size)(hN:xs.length<=140737488355328)(hcap:xs.length<=c)(hlen:(Lib.join (xs.map (·.data.toList)) sep.data.toList).length<=140737488355328):
  aH3 83 #[.slice (some ⟨bk,o,none⟩) xs.length c,.string sep] w λe w'=>e=.returned (.string ⟨(Lib.join (xs.map (·.data.toList)) sep.data.toList).toArray⟩)/\Below w.heap.size w w':=Any.strings_Join Tryz.lays156 Tryz.YC bk o c xs sep w hcells hbk hN hcap hlen
def Tryz.lays161_ren:Go.Shelf.Ren:=⟨λ|161=>71|231=>139|227=>140|233=>141|235=>142|228=>198|197=>164|151=>199|260=>229|152=>268|137=>192|119=>353|224=>282|225=>281|217=>265|266=>342|n=>n,λ|9=>9|4=>4|3=>3|5=>5|117=>216|116=>215|0=>0|124=>219|105=>232|21=>21|119=>344|46=>223|139=>347|138=>346|n=>n,λ|3=>1|4=>2|n=>n⟩
def Tryz.lays161:Go.Proofs.Lays.n161 aM Tryz.lays161_ren:={
 mixed:=by kernel_rfl
 f119:=bg Tryz.func353
 f137:=bg Tryz.func192
 f151:=bg Tryz.func199
 f152:=bg Tryz.func268
 f161:=bg Tryz.func71
 f197:=bg Tryz.func164
 f217:=bg Tryz.func265
 f224:=bg Tryz.func282
 f225:=bg Tryz.func281
 f227:=bg Tryz.func140
 f228:=bg Tryz.func198
 f231:=bg Tryz.func139
 f233:=bg Tryz.func141
 f235:=bg Tryz.func142
 f260:=bg Tryz.func229
 f266:=bg Tryz.func342
 t0:=Tryz.underlying0
 a0:=Tryz.isAgg0
 z0:=Tryz.sizeOf0
 v0:=Tryz.zeroValue0
 t3:=Tryz.underlying3
 a3:=Tryz.isAgg3
 z3:=Tryz.sizeOf3
 v3:=Tryz.zeroValue3
 t4:=Tryz.underlying4
 a4:=Tryz.isAgg4
 z4:=Tryz.sizeOf4
 v4:=Tryz.zeroValue4
 t5:=Tryz.underlying5
 a5:=Tryz.isAgg5
 z5:=Tryz.sizeOf5
 v5:=Tryz.zeroValue5
 t9:=Tryz.underlying9
 a9:=Tryz.isAgg9
 z9:=Tryz.sizeOf9
 v9:=Tryz.zeroValue9
 t21:=Tryz.underlying21
 a21:=Tryz.isAgg21
 z21:=Tryz.sizeOf21
 v21:=Tryz.zeroValue21
 t46:=Tryz.underlying223
 a46:=Tryz.isAgg223
 z46:=Tryz.sizeOf223
 v46:=Tryz.zeroValue223
 t105:=Tryz.underlying232
 a105:=Tryz.isAgg232
 z105:=Tryz.sizeOf232
 v105:=Tryz.zeroValue232
 t116:=Tryz.underlying215
 a116:=Tryz.isAgg215
 z116:=Tryz.sizeOf215
 t117:=Tryz.underlying216
 a117:=Tryz.isAgg216
 z117:=Tryz.sizeOf216
 v117:=Tryz.zeroValue216
 t119:=Tryz.underlying344
 a119:=Tryz.isAgg344
 z119:=Tryz.sizeOf344
 t124:=Tryz.underlying219
 a124:=Tryz.isAgg219
 z124:=Tryz.sizeOf219
 v124:=Tryz.zeroValue219
 t138:=Tryz.underlying346
 a138:=Tryz.isAgg346
 z138:=Tryz.sizeOf346
 v138:=Tryz.zeroValue346
 t139:=Tryz.underlying347
 a139:=Tryz.isAgg347
 z139:=Tryz.sizeOf347
 v139:=Tryz.zeroValue347
 g3:=by kernel_rfl
 g4:=by kernel_rfl}
def Tryz.lays162_ren:Go.Shelf.Ren:=⟨λ|162=>161|232=>226|227=>140|234=>227|236=>228|228=>198|271=>295|151=>199|120=>365|197=>164|152=>268|260=>229|137=>192|119=>353|224=>282|225=>281|217=>265|266=>342|n=>n,λ|9=>9|4=>4|3=>3|5=>5|117=>216|116=>215|0=>0|124=>219|21=>21|105=>232|46=>223|119=>344|139=>347|138=>346|n=>n,λ|3=>1|4=>2|n=>n⟩
def Tryz.lays162:Go.Proofs.Lays.n162 aM Tryz.lays162_ren:={
 mixed:=by kernel_rfl
 f119:=bg Tryz.func353
 f120:=bg Tryz.func365
 f137:=bg Tryz.func192
 f151:=bg Tryz.func199
 f152:=bg Tryz.func268
 f162:=bg Tryz.func161
 f197:=bg Tryz.func164
 f217:=bg Tryz.func265
 f224:=bg Tryz.func282
 f225:=bg Tryz.func281
 f227:=bg Tryz.func140
 f228:=bg Tryz.func198
 f232:=bg Tryz.func226
 f234:=bg Tryz.func227
 f236:=bg Tryz.func228
 f260:=bg Tryz.func229
 f266:=bg Tryz.func342
 f271:=bg Tryz.func295
 t0:=Tryz.underlying0
 a0:=Tryz.isAgg0
 z0:=Tryz.sizeOf0
 v0:=Tryz.zeroValue0
 t3:=Tryz.underlying3
 a3:=Tryz.isAgg3
 z3:=Tryz.sizeOf3
 v3:=Tryz.zeroValue3
 t4:=Tryz.underlying4
 a4:=Tryz.isAgg4
 z4:=Tryz.sizeOf4
 v4:=Tryz.zeroValue4
 t5:=Tryz.underlying5
 a5:=Tryz.isAgg5
 z5:=Tryz.sizeOf5
 v5:=Tryz.zeroValue5
 t9:=Tryz.underlying9
 a9:=Tryz.isAgg9
 z9:=Tryz.sizeOf9
 v9:=Tryz.zeroValue9
 t21:=Tryz.underlying21
 a21:=Tryz.isAgg21
 z21:=Tryz.sizeOf21
 v21:=Tryz.zeroValue21
 t46:=Tryz.underlying223
 a46:=Tryz.isAgg223
 z46:=Tryz.sizeOf223
 v46:=Tryz.zeroValue223
 t105:=Tryz.underlying232
 a105:=Tryz.isAgg232
 z105:=Tryz.sizeOf232
 v105:=Tryz.zeroValue232
 t116:=Tryz.underlying215
 a116:=Tryz.isAgg215
 z116:=Tryz.sizeOf215
 t117:=Tryz.underlying216
 a117:=Tryz.isAgg216
 z117:=Tryz.sizeOf216
 v117:=Tryz.zeroValue216
 t119:=Tryz.underlying344
 a119:=Tryz.isAgg344
 z119:=Tryz.sizeOf344
 t124:=Tryz.underlying219
 a124:=Tryz.isAgg219
 z124:=Tryz.sizeOf219
 v124:=Tryz.zeroValue219
 t138:=Tryz.underlying346
 a138:=Tryz.isAgg346
 z138:=Tryz.sizeOf346
 v138:=Tryz.zeroValue346
 t139:=Tryz.underlying347
 a139:=Tryz.isAgg347
 z139:=Tryz.sizeOf347
 v139:=Tryz.zeroValue347
 g3:=by kernel_rfl
 g4:=by kernel_rfl}
open Go.RowKit in
def Tryz.strings_TrimRight_one(s:ByteArray)(c:UInt8)(hc:c.toNat<128)(w:World)(hs:s.size<=9223372036854775807):
  aH3 161 #[.string s,.string ⟨#[c]⟩] w λe w'=>e=.returned (.string ⟨(Lib.trimRightB s.data.toList c).toArray⟩)/\w'=w:=Any.strings_TrimRight_one Tryz.lays162 s c hc w hs
def Tryz.lays160_ren:Go.Shelf.Ren:=⟨λ|160=>273|232=>226|231=>139|227=>140|234=>227|233=>141|236=>228|235=>142|228=>198|271=>295|151=>199|197=>164|120=>365|152=>268|260=>229|137=>192|119=>353|224=>282|225=>281|217=>265|266=>342|n=>n,λ|9=>9|4=>4|3=>3|5=>5|117=>216|116=>215|0=>0|124=>219|21=>21|105=>232|46=>223|119=>344|139=>347|138=>346|n=>n,λ|3=>1|4=>2|n=>n⟩
def Tryz.lays160:Go.Proofs.Lays.n160 aM Tryz.lays160_ren:={
 mixed:=by kernel_rfl
 f119:=bg Tryz.func353
 f120:=bg Tryz.func365
 f137:=bg Tryz.func192
 f151:=bg Tryz.func199
 f152:=bg Tryz.func268
 f160:=bg Tryz.func273
 f197:=bg Tryz.func164
 f217:=bg Tryz.func265
 f224:=bg Tryz.func282
 f225:=bg Tryz.func281
 f227:=bg Tryz.func140
 f228:=bg Tryz.func198
 f231:=bg Tryz.func139
 f232:=bg Tryz.func226
 f233:=bg Tryz.func141
 f234:=bg Tryz.func227
 f235:=bg Tryz.func142
 f236:=bg Tryz.func228
 f260:=bg Tryz.func229
 f266:=bg Tryz.func342
 f271:=bg Tryz.func295
 t0:=Tryz.underlying0
 a0:=Tryz.isAgg0
 z0:=Tryz.sizeOf0
 v0:=Tryz.zeroValue0
 t3:=Tryz.underlying3
 a3:=Tryz.isAgg3
 z3:=Tryz.sizeOf3
 v3:=Tryz.zeroValue3
 t4:=Tryz.underlying4
 a4:=Tryz.isAgg4
 z4:=Tryz.sizeOf4
 v4:=Tryz.zeroValue4
 t5:=Tryz.underlying5
 a5:=Tryz.isAgg5
 z5:=Tryz.sizeOf5
 v5:=Tryz.zeroValue5
 t9:=Tryz.underlying9
 a9:=Tryz.isAgg9
 z9:=Tryz.sizeOf9
 v9:=Tryz.zeroValue9
 t21:=Tryz.underlying21
 a21:=Tryz.isAgg21
 z21:=Tryz.sizeOf21
 v21:=Tryz.zeroValue21
 t46:=Tryz.underlying223
 a46:=Tryz.isAgg223
 z46:=Tryz.sizeOf223
 v46:=Tryz.zeroValue223
 t105:=Tryz.underlying232
 a105:=Tryz.isAgg232
 z105:=Tryz.sizeOf232
 v105:=Tryz.zeroValue232
 t116:=Tryz.underlying215
 a116:=Tryz.isAgg215
 z116:=Tryz.sizeOf215
 t117:=Tryz.underlying216
 a117:=Tryz.isAgg216
 z117:=Tryz.sizeOf216
 v117:=Tryz.zeroValue216
 t119:=Tryz.underlying344
 a119:=Tryz.isAgg344
 z119:=Tryz.sizeOf344
 t124:=Tryz.underlying219
 a124:=Tryz.isAgg219
 z124:=Tryz.sizeOf219
 v124:=Tryz.zeroValue219
 t138:=Tryz.underlying346
 a138:=Tryz.isAgg346
 z138:=Tryz.sizeOf346
 v138:=Tryz.zeroValue346
 t139:=Tryz.underlying347
 a139:=Tryz.isAgg347
 z139:=Tryz.sizeOf347
 v139:=Tryz.zeroValue347
 g3:=by kernel_rfl
 g4:=by kernel_rfl}
def Tryz.lays125_ren:Go.Shelf.Ren:=⟨λ|125=>158|128=>221|129=>222|n=>n,λ|46=>223|3=>3|51=>279|53=>189|4=>4|5=>5|9=>9|n=>n,λ|n=>n⟩
def Tryz.lays125:Go.Proofs.Lays.n125 aM Tryz.lays125_ren:={
 mixed:=by kernel_rfl
 f125:=bg Tryz.func158
 f128:=bg Tryz.func221
 f129:=bg Tryz.func222
 t3:=Tryz.underlying3
 a3:=Tryz.isAgg3
 z3:=Tryz.sizeOf3
 v3:=Tryz.zeroValue3
 t4:=Tryz.underlying4
 a4:=Tryz.isAgg4
 z4:=Tryz.sizeOf4
 v4:=Tryz.zeroValue4
 t5:=Tryz.underlying5
 a5:=Tryz.isAgg5
 z5:=Tryz.sizeOf5
 v5:=Tryz.zeroValue5
 t9:=Tryz.underlying9
 a9:=Tryz.isAgg9
 z9:=Tryz.sizeOf9
 v9:=Tryz.zeroValue9
 t46:=Tryz.underlying223
 a46:=Tryz.isAgg223
 z46:=Tryz.sizeOf223
 v46:=Tryz.zeroValue223
 t51:=Tryz.underlying279
 a51:=Tryz.isAgg279
 z51:=Tryz.sizeOf279
 v51:=Tryz.zeroValue279
 t53:=Tryz.underlying189
 a53:=Tryz.isAgg189
 z53:=Tryz.sizeOf189
 v53:=Tryz.zeroValue189}
def Tryz.bits_Len(x:Int)(w:World)(h0:0<=x)(h1:x<=18446744073709551615):
  aH3 158 #[.int .u64 x] w λe w'=>e=.returned (.int .i64 (Lib.bitLen x.toNat))/\w'=w:=Any.bits_Len Tryz.lays125 x w h0 h1
def Tryz.lays106_ren:Go.Shelf.Ren:=⟨λ|106=>272|213=>354|265=>428|n=>n,λ|9=>9|3=>3|n=>n,λ|n=>n⟩
def Tryz.lays106:Go.Proofs.Lays.n106 aM Tryz.lays106_ren:={
 mixed:=by kernel_rfl
 f106:=bg Tryz.func272
 f213:=bg Tryz.func354
 f265:=bg Tryz.func428
 t3:=Tryz.underlying3
 a3:=Tryz.isAgg3
 z3:=Tryz.sizeOf3
 v3:=Tryz.zeroValue3
 t9:=Tryz.underlying9
 a9:=Tryz.isAgg9
 z9:=Tryz.sizeOf9
 v9:=Tryz.zeroValue9}
open Go.RowKit in
def Tryz.strings_Compare(a b:ByteArray)(w:World):
  aH3 272 #[.string a,.string b] w λe w'=>e=.returned (.int .i64 (Lib.compareBytes a.data.toList b.data.toList))/\w'=w:=Any.strings_Compare Tryz.lays106 a b w
def Tryz.lays137_ren:Go.Shelf.Ren:=⟨λ|137=>192|217=>265|266=>342|n=>n,λ|9=>9|5=>5|3=>3|n=>n,λ|n=>n⟩
def Tryz.lays137:Go.Proofs.Lays.n137 aM Tryz.lays137_ren:={
 mixed:=by kernel_rfl
 f137:=bg Tryz.func192
 f217:=bg Tryz.func265
 f266:=bg Tryz.func342
 t3:=Tryz.underlying3
 a3:=Tryz.isAgg3
 z3:=Tryz.sizeOf3
 v3:=Tryz.zeroValue3
 t5:=Tryz.underlying5
 a5:=Tryz.isAgg5
 z5:=Tryz.sizeOf5
 v5:=Tryz.zeroValue5
 t9:=Tryz.underlying9
 a9:=Tryz.isAgg9
 z9:=Tryz.sizeOf9
 v9:=Tryz.zeroValue9}
open Go.RowKit in
def Tryz.strings_IndexByte(s:ByteArray)(c:Int)(w:World):
  aH3 192 #[.string s,.int .u8 c] w λe w'=>e=.returned (.int .i64 (Lib.indexByte s.data.toList c.toNat.toUInt8))/\w'=w:=Any.strings_IndexByte Tryz.lays137 s c w
def Tryz.lays103_ren:Go.Shelf.Ren:=⟨λ|103=>170|210=>233|206=>143|n=>n,λ|9=>9|4=>4|24=>179|3=>3|n=>n,λ|n=>n⟩
def Tryz.lays103:Go.Proofs.Lays.n103 aM Tryz.lays103_ren:={
 mixed:=by kernel_rfl
 f103:=bg Tryz.func170
 f206:=bg Tryz.func143
 f210:=bg Tryz.func233
 t3:=Tryz.underlying3
 a3:=Tryz.isAgg3
 z3:=Tryz.sizeOf3
 v3:=Tryz.zeroValue3
 t4:=Tryz.underlying4
 a4:=Tryz.isAgg4
 z4:=Tryz.sizeOf4
 v4:=Tryz.zeroValue4
 t9:=Tryz.underlying9
 a9:=Tryz.isAgg9
 z9:=Tryz.sizeOf9
 v9:=Tryz.zeroValue9
 t24:=Tryz.underlying179
 a24:=Tryz.isAgg179
 z24:=Tryz.sizeOf179
 v24:=Tryz.zeroValue179}
open Go.RowKit in
def Tryz.strings_CutPrefix(s p:ByteArray)(w:World):
  aH3 170 #[.string s,.string p] w λe w'=>e=.returned (.tuple #[.string ⟨(Lib.trimPrefix s.data.toList p.data.toList).toArray⟩,.bool (Lib.hasPrefix s.data.toList p.data.toList)])/\w'=w:=Any.strings_CutPrefix Tryz.lays103 s p w
def Tryz.ao8:Go.Shelf.Ren:=⟨λ|171=>88|243=>152|246=>210|283=>277|284=>278|285=>279|286=>280|129=>222|317=>356|318=>357|319=>358|320=>359|337=>429|338=>430|n=>n,λ|3=>3|9=>9|2=>2|4=>4|171=>330|0=>0|53=>189|37=>22|5=>5|173=>332|212=>391|51=>279|20=>20|213=>392|46=>223|232=>482|233=>438|n=>n,λ|17=>3|18=>6|19=>7|n=>n⟩
def Tryz.auT:Go.Proofs.LaysM.n171 aM Tryz.ao8:={
 mixed:=by kernel_rfl
 f129:=bg Tryz.func222
 f171:=bg Tryz.func88
 f243:=bg Tryz.func152
 f246:=bg Tryz.func210
 f283:=bg Tryz.func277
 f284:=bg Tryz.func278
 f285:=bg Tryz.func279
 f286:=bg Tryz.func280
 f317:=bg Tryz.func356
 f318:=bg Tryz.func357
 f319:=bg Tryz.func358
 f320:=bg Tryz.func359
 f337:=bg Tryz.func429
 f338:=bg Tryz.func430
 t0:=Tryz.underlying0
 a0:=Tryz.isAgg0
 z0:=Tryz.sizeOf0
 v0:=Tryz.zeroValue0
 t2:=Tryz.underlying2
 a2:=Tryz.isAgg2
 z2:=Tryz.sizeOf2
 v2:=Tryz.zeroValue2
 t3:=Tryz.underlying3
 a3:=Tryz.isAgg3
 z3:=Tryz.sizeOf3
 v3:=Tryz.zeroValue3
 t4:=Tryz.underlying4
 a4:=Tryz.isAgg4
 z4:=Tryz.sizeOf4
 v4:=Tryz.zeroValue4
 t5:=Tryz.underlying5
 a5:=Tryz.isAgg5
 z5:=Tryz.sizeOf5
 v5:=Tryz.zeroValue5
 t9:=Tryz.underlying9
 a9:=Tryz.isAgg9
 z9:=Tryz.sizeOf9
 v9:=Tryz.zeroValue9
 t20:=Tryz.underlying20
 a20:=Tryz.isAgg20
 z20:=Tryz.sizeOf20
 v20:=Tryz.zeroValue20
 t37:=Tryz.underlying22
 a37:=Tryz.isAgg22
 z37:=Tryz.sizeOf22
 v37:=Tryz.zeroValue22
 t46:=Tryz.underlying223
 a46:=Tryz.isAgg223
 z46:=Tryz.sizeOf223
 v46:=Tryz.zeroValue223
 t51:=Tryz.underlying279
 a51:=Tryz.isAgg279
 z51:=Tryz.sizeOf279
 v51:=Tryz.zeroValue279
 t53:=Tryz.underlying189
 a53:=Tryz.isAgg189
 z53:=Tryz.sizeOf189
 v53:=Tryz.zeroValue189
 t171:=Tryz.underlying330
 a171:=Tryz.isAgg330
 z171:=Tryz.sizeOf330
 v171:=Tryz.zeroValue330
 t173:=Tryz.underlying332
 a173:=Tryz.isAgg332
 z173:=Tryz.sizeOf332
 v173:=Tryz.zeroValue332
 t212:=Tryz.underlying391
 a212:=Tryz.isAgg391
 z212:=Tryz.sizeOf391
 v212:=Tryz.zeroValue391
 t213:=Tryz.underlying392
 a213:=Tryz.isAgg392
 z213:=Tryz.sizeOf392
 t232:=Tryz.underlying482
 a232:=Tryz.isAgg482
 z232:=Tryz.sizeOf482
 v232:=Tryz.zeroValue482
 t233:=Tryz.underlying438
 a233:=Tryz.isAgg438
 z233:=Tryz.sizeOf438
 v233:=Tryz.zeroValue438
 g17:=by kernel_rfl
 g18:=by kernel_rfl
 g19:=by kernel_rfl
 i0:=by kernel_rfl
 i2:=by kernel_rfl
 i3:=by kernel_rfl
 i4:=by kernel_rfl
 i5:=by kernel_rfl
 i9:=by kernel_rfl
 i20:=by kernel_rfl
 i37:=by kernel_rfl
 i46:=by kernel_rfl
 i51:=by kernel_rfl
 i53:=by kernel_rfl
 i171:=by kernel_rfl
 i173:=by kernel_rfl
 i212:=by kernel_rfl
 i232:=by kernel_rfl
 i233:=by kernel_rfl
 m17:=by kernel_rfl
 m18:=by kernel_rfl
 m19:=by kernel_rfl}
open Go.RowKit Go.Sort Go.Lib in
def Tryz.strconv_Itoa(n:Int)(h0: -9223372036854775808<=n)(h1:n<=9223372036854775807)(w:World)(htab:Lib.TabIs aM w "internal/strconv.uint64pow10" .u64 Lib.pow10Tab):
  aH3 88 #[.int .i64 n] w λe w'=>e=.returned (.string ⟨(Lib.itoa n).toArray⟩)/\∃k os,w'=grow (w.drewN k) os:=Any.strconv_Itoa Tryz.auT n h0 h1 w htab
def Tryz.lays143_ren:Go.Shelf.Ren:=⟨λ|143=>155|219=>211|217=>265|225=>281|224=>282|267=>283|266=>342|314=>360|n=>n,λ|9=>9|3=>3|4=>4|5=>5|46=>223|146=>394|51=>279|n=>n,λ|1=>0|n=>n⟩
def Tryz.lays143:Go.Proofs.Lays.n143 aM Tryz.lays143_ren:={
 mixed:=by kernel_rfl
 f143:=bg Tryz.func155
 f217:=bg Tryz.func265
 f219:=bg Tryz.func211
 f224:=bg Tryz.func282
 f225:=bg Tryz.func281
 f266:=bg Tryz.func342
 f267:=bg Tryz.func283
 f314:=bg Tryz.func360
 t3:=Tryz.underlying3
 a3:=Tryz.isAgg3
 z3:=Tryz.sizeOf3
 v3:=Tryz.zeroValue3
 t4:=Tryz.underlying4
 a4:=Tryz.isAgg4
 z4:=Tryz.sizeOf4
 v4:=Tryz.zeroValue4
 t5:=Tryz.underlying5
 a5:=Tryz.isAgg5
 z5:=Tryz.sizeOf5
 v5:=Tryz.zeroValue5
 t9:=Tryz.underlying9
 a9:=Tryz.isAgg9
 z9:=Tryz.sizeOf9
 v9:=Tryz.zeroValue9
 t46:=Tryz.underlying223
 a46:=Tryz.isAgg223
 z46:=Tryz.sizeOf223
 v46:=Tryz.zeroValue223
 t51:=Tryz.underlying279
 a51:=Tryz.isAgg279
 z51:=Tryz.sizeOf279
 v51:=Tryz.zeroValue279
 t146:=Tryz.underlying394
 a146:=Tryz.isAgg394
 z146:=Tryz.sizeOf394
 v146:=Tryz.zeroValue394
 g1:=by kernel_rfl}
open Go.RowKit Go.Lib in
def Tryz.strings_Index_one(s:ByteArray)(c:UInt8)(w:World):
  aH3 155 #[.string s,.string ⟨#[c]⟩] w λe w'=>e=.returned (.int .i64 (Lib.indexByte s.data.toList c))/\w'=w:=Any.strings_Index_one Tryz.lays143 s c w
def Tryz.lays144_ren:Go.Shelf.Ren:=⟨λ|144=>104|143=>155|219=>211|217=>265|225=>281|224=>282|267=>283|266=>342|314=>360|n=>n,λ|9=>9|4=>4|3=>3|5=>5|46=>223|146=>394|51=>279|n=>n,λ|1=>0|n=>n⟩
def Tryz.lays144:Go.Proofs.Lays.n144 aM Tryz.lays144_ren:={
 mixed:=by kernel_rfl
 f143:=bg Tryz.func155
 f144:=bg Tryz.func104
 f217:=bg Tryz.func265
 f219:=bg Tryz.func211
 f224:=bg Tryz.func282
 f225:=bg Tryz.func281
 f266:=bg Tryz.func342
 f267:=bg Tryz.func283
 f314:=bg Tryz.func360
 t3:=Tryz.underlying3
 a3:=Tryz.isAgg3
 z3:=Tryz.sizeOf3
 v3:=Tryz.zeroValue3
 t4:=Tryz.underlying4
 a4:=Tryz.isAgg4
 z4:=Tryz.sizeOf4
 v4:=Tryz.zeroValue4
 t5:=Tryz.underlying5
 a5:=Tryz.isAgg5
 z5:=Tryz.sizeOf5
 v5:=Tryz.zeroValue5
 t9:=Tryz.underlying9
 a9:=Tryz.isAgg9
 z9:=Tryz.sizeOf9
 v9:=Tryz.zeroValue9
 t46:=Tryz.underlying223
 a46:=Tryz.isAgg223
 z46:=Tryz.sizeOf223
 v46:=Tryz.zeroValue223
 t51:=Tryz.underlying279
 a51:=Tryz.isAgg279
 z51:=Tryz.sizeOf279
 v51:=Tryz.zeroValue279
 t146:=Tryz.underlying394
 a146:=Tryz.isAgg394
 z146:=Tryz.sizeOf394
 v146:=Tryz.zeroValue394
 g1:=by kernel_rfl}
open Go.RowKit Go.Lib in
def Tryz.strings_Contains_one(s:ByteArray)(c:UInt8)(w:World):
  aH3 104 #[.string s,.string ⟨#[c]⟩] w λe w'=>e=.returned (.bool (decide (0<=Lib.indexByte s.data.toList c)))/\w'=w:=Any.strings_Contains_one Tryz.lays144 s c w
def Tryz.lays138_ren:Go.Shelf.Ren:=⟨λ|138=>89|195=>153|218=>154|143=>155|219=>211|217=>265|225=>281|224=>282|267=>283|266=>342|314=>360|n=>n,λ|9=>9|3=>3|4=>4|5=>5|0=>0|46=>223|146=>394|51=>279|n=>n,λ|1=>0|n=>n⟩
def Tryz.lays138:Go.Proofs.Lays.n138 aM Tryz.lays138_ren:={
 mixed:=by kernel_rfl
 f138:=bg Tryz.func89
 f143:=bg Tryz.func155
 f195:=bg Tryz.func153
 f217:=bg Tryz.func265
 f218:=bg Tryz.func154
 f219:=bg Tryz.func211
 f224:=bg Tryz.func282
 f225:=bg Tryz.func281
 f266:=bg Tryz.func342
 f267:=bg Tryz.func283
 f314:=bg Tryz.func360
 t0:=Tryz.underlying0
 a0:=Tryz.isAgg0
 z0:=Tryz.sizeOf0
 v0:=Tryz.zeroValue0
 t3:=Tryz.underlying3
 a3:=Tryz.isAgg3
 z3:=Tryz.sizeOf3
 v3:=Tryz.zeroValue3
 t4:=Tryz.underlying4
 a4:=Tryz.isAgg4
 z4:=Tryz.sizeOf4
 v4:=Tryz.zeroValue4
 t5:=Tryz.underlying5
 a5:=Tryz.isAgg5
 z5:=Tryz.sizeOf5
 v5:=Tryz.zeroValue5
 t9:=Tryz.underlying9
 a9:=Tryz.isAgg9
 z9:=Tryz.sizeOf9
 v9:=Tryz.zeroValue9
 t46:=Tryz.underlying223
 a46:=Tryz.isAgg223
 z46:=Tryz.sizeOf223
 v46:=Tryz.zeroValue223
 t51:=Tryz.underlying279
 a51:=Tryz.isAgg279
 z51:=Tryz.sizeOf279
 v51:=Tryz.zeroValue279
 t146:=Tryz.underlying394
 a146:=Tryz.isAgg394
 z146:=Tryz.sizeOf394
 v146:=Tryz.zeroValue394
 g1:=by kernel_rfl}
open Go.RowKit Go.Lib in
def Tryz.strings_Count_one(s:ByteArray)(c:UInt8)(w:World):
  aH3 89 #[.string s,.string ⟨#[c]⟩] w λe w'=>e=.returned (.int .i64 (Lib.countByte s.data.toList c))/\w'=w:=Any.strings_Count_one Tryz.lays138 s c w
def Tryz.lays190_ren:Go.Shelf.Ren:=⟨λ|190=>94|125=>158|258=>157|128=>221|129=>222|302=>212|303=>213|304=>214|305=>215|306=>216|307=>217|308=>218|309=>219|310=>220|333=>284|329=>285|330=>286|334=>287|335=>288|336=>289|344=>361|n=>n,λ|31=>25|9=>9|3=>3|46=>223|0=>0|51=>279|53=>189|4=>4|183=>273|182=>272|131=>155|5=>5|218=>334|222=>338|228=>396|229=>397|n=>n,λ|n=>n⟩
def Tryz.lays190:Go.Proofs.Lays.n190 aM Tryz.lays190_ren:={
 mixed:=by kernel_rfl
 f125:=bg Tryz.func158
 f128:=bg Tryz.func221
 f129:=bg Tryz.func222
 f190:=bg Tryz.func94
 f258:=bg Tryz.func157
 f302:=bg Tryz.func212
 f303:=bg Tryz.func213
 f304:=bg Tryz.func214
 f305:=bg Tryz.func215
 f306:=bg Tryz.func216
 f307:=bg Tryz.func217
 f308:=bg Tryz.func218
 f309:=bg Tryz.func219
 f310:=bg Tryz.func220
 f329:=bg Tryz.func285
 f330:=bg Tryz.func286
 f333:=bg Tryz.func284
 f334:=bg Tryz.func287
 f335:=bg Tryz.func288
 f336:=bg Tryz.func289
 f344:=bg Tryz.func361
 t0:=Tryz.underlying0
 a0:=Tryz.isAgg0
 z0:=Tryz.sizeOf0
 v0:=Tryz.zeroValue0
 t3:=Tryz.underlying3
 a3:=Tryz.isAgg3
 z3:=Tryz.sizeOf3
 v3:=Tryz.zeroValue3
 t4:=Tryz.underlying4
 a4:=Tryz.isAgg4
 z4:=Tryz.sizeOf4
 v4:=Tryz.zeroValue4
 t5:=Tryz.underlying5
 a5:=Tryz.isAgg5
 z5:=Tryz.sizeOf5
 v5:=Tryz.zeroValue5
 t9:=Tryz.underlying9
 a9:=Tryz.isAgg9
 z9:=Tryz.sizeOf9
 v9:=Tryz.zeroValue9
 t31:=Tryz.underlying25
 a31:=Tryz.isAgg25
 z31:=Tryz.sizeOf25
 v31:=Tryz.zeroValue25
 t46:=Tryz.underlying223
 a46:=Tryz.isAgg223
 z46:=Tryz.sizeOf223
 v46:=Tryz.zeroValue223
 t51:=Tryz.underlying279
 a51:=Tryz.isAgg279
 z51:=Tryz.sizeOf279
 v51:=Tryz.zeroValue279
 t53:=Tryz.underlying189
 a53:=Tryz.isAgg189
 z53:=Tryz.sizeOf189
 v53:=Tryz.zeroValue189
 t131:=Tryz.underlying155
 a131:=Tryz.isAgg155
 z131:=Tryz.sizeOf155
 v131:=Tryz.zeroValue155
 t182:=Tryz.underlying272
 a182:=Tryz.isAgg272
 z182:=Tryz.sizeOf272
 v182:=Tryz.zeroValue272
 t183:=Tryz.underlying273
 a183:=Tryz.isAgg273
 z183:=Tryz.sizeOf273
 v183:=Tryz.zeroValue273
 t218:=Tryz.underlying334
 a218:=Tryz.isAgg334
 z218:=Tryz.sizeOf334
 v218:=Tryz.zeroValue334
 t222:=Tryz.underlying338
 a222:=Tryz.isAgg338
 z222:=Tryz.sizeOf338
 v222:=Tryz.zeroValue338
 t228:=Tryz.underlying396
 a228:=Tryz.isAgg396
 z228:=Tryz.sizeOf396
 v228:=Tryz.zeroValue396
 t229:=Tryz.underlying397
 a229:=Tryz.isAgg397
 z229:=Tryz.sizeOf397
 v229:=Tryz.zeroValue397}
open Go.Sort Go.RowKit in
def Tryz.slices_Sort_string(blk off cap:Nat)(ss:List (List UInt8))(w:World)(hH:Holds encStr w blk off ss.toArray)(hblk:blk<w.heap.size)(hsz:ss.length<4611686018427387904):
  aH3 94 #[.slice (some ⟨blk,off,none⟩) ss.length cap] w λe w'=>
   e=.returned (.tuple #[])/\∃n os,w'=grow (putRow encStr (Sort.ahead w n) blk off (ss.mergeSort λx y=>decide (x<=y)).toArray) os:=Any.slices_Sort_string Tryz.lays190 blk off cap ss w hH hblk hsz
def Tryz.lays149_ren:Go.Shelf.Ren:=⟨λ|149=>107|222=>162|n=>n,λ|9=>9|5=>5|3=>3|4=>4|n=>n,λ|n=>n⟩
def Tryz.lays149:Go.Proofs.Lays.n149 aM Tryz.lays149_ren:={
 mixed:=by kernel_rfl
 f149:=bg Tryz.func107
 f222:=bg Tryz.func162
 t3:=Tryz.underlying3
 a3:=Tryz.isAgg3
 z3:=Tryz.sizeOf3
 v3:=Tryz.zeroValue3
 t4:=Tryz.underlying4
 a4:=Tryz.isAgg4
 z4:=Tryz.sizeOf4
 v4:=Tryz.zeroValue4
 t5:=Tryz.underlying5
 a5:=Tryz.isAgg5
 z5:=Tryz.sizeOf5
 v5:=Tryz.zeroValue5
 t9:=Tryz.underlying9
 a9:=Tryz.isAgg9
 z9:=Tryz.sizeOf9
 v9:=Tryz.zeroValue9}
open Go.RowKit Go.Lib in
def Tryz.strings_LastIndexByte(s:ByteArray)(c:Int)(hs:s.size<4611686018427387904)(w:World):
  aH3 107 #[.string s,.int .u8 c] w λe w'=>e=.returned (.int .i64 (Lib.lastIndexByte s c))/\w'=w:=Any.strings_LastIndexByte Tryz.lays149 s c hs w
def Tryz.lays206_ren:Go.Shelf.Ren:=⟨λ|206=>143|n=>n,λ|9=>9|4=>4|3=>3|n=>n,λ|n=>n⟩
def Tryz.lays206:Go.Proofs.Lays.n206 aM Tryz.lays206_ren:={
 mixed:=by kernel_rfl
 f206:=bg Tryz.func143
 t3:=Tryz.underlying3
 a3:=Tryz.isAgg3
 z3:=Tryz.sizeOf3
 v3:=Tryz.zeroValue3
 t4:=Tryz.underlying4
 a4:=Tryz.isAgg4
 z4:=Tryz.sizeOf4
 v4:=Tryz.zeroValue4
 t9:=Tryz.underlying9
 a9:=Tryz.isAgg9
 z9:=Tryz.sizeOf9
 v9:=Tryz.zeroValue9}
open Go.RowKit Go.Lib in
def Tryz.stringslite_HasPrefix(s p:ByteArray)(w:World):
  aH3 143 #[.string s,.string p] w λe w'=>e=.returned (.bool (Lib.hasPrefix s.data.toList p.data.toList))/\w'=w:=Any.stringslite_HasPrefix Tryz.lays206 s p w
def Tryz.lays99_ren:Go.Shelf.Ren:=⟨λ|99=>73|206=>143|n=>n,λ|9=>9|4=>4|3=>3|n=>n,λ|n=>n⟩
def Tryz.lays99:Go.Proofs.Lays.n99 aM Tryz.lays99_ren:={
 mixed:=by kernel_rfl
 f99:=bg Tryz.func73
 f206:=bg Tryz.func143
 t3:=Tryz.underlying3
 a3:=Tryz.isAgg3
 z3:=Tryz.sizeOf3
 v3:=Tryz.zeroValue3
 t4:=Tryz.underlying4
 a4:=Tryz.isAgg4
 z4:=Tryz.sizeOf4
 v4:=Tryz.zeroValue4
 t9:=Tryz.underlying9
 a9:=Tryz.isAgg9
 z9:=Tryz.sizeOf9
 v9:=Tryz.zeroValue9}
open Go.RowKit Go.Lib in
def Tryz.strings_HasPrefix(s p:ByteArray)(w:World):
  aH3 73 #[.string s,.string p] w λe w'=>e=.returned (.bool (Lib.hasPrefix s.data.toList p.data.toList))/\w'=w:=Any.strings_HasPrefix Tryz.lays99 s p w
def Tryz.lays100_ren:Go.Shelf.Ren:=⟨λ|100=>250|207=>202|n=>n,λ|9=>9|4=>4|3=>3|n=>n,λ|n=>n⟩
def Tryz.lays100:Go.Proofs.Lays.n100 aM Tryz.lays100_ren:={
 mixed:=by kernel_rfl
 f100:=bg Tryz.func250
 f207:=bg Tryz.func202
 t3:=Tryz.underlying3
 a3:=Tryz.isAgg3
 z3:=Tryz.sizeOf3
 v3:=Tryz.zeroValue3
 t4:=Tryz.underlying4
 a4:=Tryz.isAgg4
 z4:=Tryz.sizeOf4
 v4:=Tryz.zeroValue4
 t9:=Tryz.underlying9
 a9:=Tryz.isAgg9
 z9:=Tryz.sizeOf9
 v9:=Tryz.zeroValue9}
open Go.RowKit Go.Lib in
def Tryz.strings_HasSuffix(s p:ByteArray)(w:World)(hs:s.size<=9223372036854775807):
  aH3 250 #[.string s,.string p] w λe w'=>e=.returned (.bool (Lib.hasSuffix s.data.toList p.data.toList))/\w'=w:=Any.strings_HasSuffix Tryz.lays100 s p w hs
def Tryz.lays102_ren:Go.Shelf.Ren:=⟨λ|102=>75|209=>146|207=>202|n=>n,λ|9=>9|4=>4|3=>3|n=>n,λ|n=>n⟩
def Tryz.lays102:Go.Proofs.Lays.n102 aM Tryz.lays102_ren:={
 mixed:=by kernel_rfl
 f102:=bg Tryz.func75
 f207:=bg Tryz.func202
 f209:=bg Tryz.func146
 t3:=Tryz.underlying3
 a3:=Tryz.isAgg3
 z3:=Tryz.sizeOf3
 v3:=Tryz.zeroValue3
 t4:=Tryz.underlying4
 a4:=Tryz.isAgg4
 z4:=Tryz.sizeOf4
 v4:=Tryz.zeroValue4
 t9:=Tryz.underlying9
 a9:=Tryz.isAgg9
 z9:=Tryz.sizeOf9
 v9:=Tryz.zeroValue9}
open Go.RowKit Go.Lib in
def Tryz.strings_TrimSuffix(s p:ByteArray)(w:World)(hs:s.size<=9223372036854775807):
  aH3 75 #[.string s,.string p] w λe w'=>e=.returned (.string ⟨(Lib.trimSuffix s.data.toList p.data.toList).toArray⟩)/\w'=w:=Any.strings_TrimSuffix Tryz.lays102 s p w hs
def Tryz.lays146_ren:Go.Shelf.Ren:=⟨λ|146=>100|221=>160|268=>225|138=>89|143=>155|195=>153|197=>164|218=>154|219=>211|260=>229|217=>265|225=>281|224=>282|267=>283|266=>342|314=>360|n=>n,λ|9=>9|31=>25|3=>3|4=>4|0=>0|105=>232|21=>21|5=>5|46=>223|119=>344|139=>347|138=>346|146=>394|51=>279|n=>n,λ|1=>0|3=>1|4=>2|n=>n⟩
def Tryz.lays146:Go.Proofs.Lays.n146 aM Tryz.lays146_ren:={
 mixed:=by kernel_rfl
 f138:=bg Tryz.func89
 f143:=bg Tryz.func155
 f146:=bg Tryz.func100
 f195:=bg Tryz.func153
 f197:=bg Tryz.func164
 f217:=bg Tryz.func265
 f218:=bg Tryz.func154
 f219:=bg Tryz.func211
 f221:=bg Tryz.func160
 f224:=bg Tryz.func282
 f225:=bg Tryz.func281
 f260:=bg Tryz.func229
 f266:=bg Tryz.func342
 f267:=bg Tryz.func283
 f268:=bg Tryz.func225
 f314:=bg Tryz.func360
 t0:=Tryz.underlying0
 a0:=Tryz.isAgg0
 z0:=Tryz.sizeOf0
 v0:=Tryz.zeroValue0
 t3:=Tryz.underlying3
 a3:=Tryz.isAgg3
 z3:=Tryz.sizeOf3
 v3:=Tryz.zeroValue3
 t4:=Tryz.underlying4
 a4:=Tryz.isAgg4
 z4:=Tryz.sizeOf4
 v4:=Tryz.zeroValue4
 t5:=Tryz.underlying5
 a5:=Tryz.isAgg5
 z5:=Tryz.sizeOf5
 v5:=Tryz.zeroValue5
 t9:=Tryz.underlying9
 a9:=Tryz.isAgg9
 z9:=Tryz.sizeOf9
 v9:=Tryz.zeroValue9
 t21:=Tryz.underlying21
 a21:=Tryz.isAgg21
 z21:=Tryz.sizeOf21
 v21:=Tryz.zeroValue21
 t31:=Tryz.underlying25
 a31:=Tryz.isAgg25
 z31:=Tryz.sizeOf25
 v31:=Tryz.zeroValue25
 t46:=Tryz.underlying223
 a46:=Tryz.isAgg223
 z46:=Tryz.sizeOf223
 v46:=Tryz.zeroValue223
 t51:=Tryz.underlying279
 a51:=Tryz.isAgg279
 z51:=Tryz.sizeOf279
 v51:=Tryz.zeroValue279
 t105:=Tryz.underlying232
 a105:=Tryz.isAgg232
 z105:=Tryz.sizeOf232
 v105:=Tryz.zeroValue232
 t119:=Tryz.underlying344
 a119:=Tryz.isAgg344
 z119:=Tryz.sizeOf344
 t138:=Tryz.underlying346
 a138:=Tryz.isAgg346
 z138:=Tryz.sizeOf346
 v138:=Tryz.zeroValue346
 t139:=Tryz.underlying347
 a139:=Tryz.isAgg347
 z139:=Tryz.sizeOf347
 v139:=Tryz.zeroValue347
 t146:=Tryz.underlying394
 a146:=Tryz.isAgg394
 z146:=Tryz.sizeOf394
 v146:=Tryz.zeroValue394
 g1:=by kernel_rfl
 g3:=by kernel_rfl
 g4:=by kernel_rfl}
open Go.RowKit Go.Lib in
def Tryz.strings_Split(s sep:ByteArray)(m:Int)(w:World)(hs:s.size<4294967281)(hm:w.cell? ⟨0,0,none⟩=some (.int .i64 m))(h1:1<=sep.size):
  aH3 100 #[.string s,.string sep] w λe w'=>
   e=.returned (.slice (some ⟨w.heap.size,0,none⟩) (Lib.countB s sep+1) (Lib.countB s sep+1))/\w'=w.alloc (.cells ((Lib.splitB sep 0 (Lib.countB s sep) s).map Value.string).toArray 9):=Any.strings_Split Tryz.lays146 (by kernel_rfl) s sep m w hs hm h1
def Tryz.lays109_ren:Go.Shelf.Ren:=⟨λ|109=>91|n=>n,λ|31=>25|9=>9|3=>3|0=>0|4=>4|n=>n,λ|n=>n⟩
def Tryz.lays109:Go.Proofs.Lays.n109 aM Tryz.lays109_ren:={
 mixed:=by kernel_rfl
 f109:=bg Tryz.func91
 t0:=Tryz.underlying0
 a0:=Tryz.isAgg0
 z0:=Tryz.sizeOf0
 v0:=Tryz.zeroValue0
 t3:=Tryz.underlying3
 a3:=Tryz.isAgg3
 z3:=Tryz.sizeOf3
 v3:=Tryz.zeroValue3
 t4:=Tryz.underlying4
 a4:=Tryz.isAgg4
 z4:=Tryz.sizeOf4
 v4:=Tryz.zeroValue4
 t9:=Tryz.underlying9
 a9:=Tryz.isAgg9
 z9:=Tryz.sizeOf9
 v9:=Tryz.zeroValue9
 t31:=Tryz.underlying25
 a31:=Tryz.isAgg25
 z31:=Tryz.sizeOf25
 v31:=Tryz.zeroValue25}
open Go.Lib in
def Tryz.slices_Index_string(b off n c:Nat)(zs:List ByteArray)(x:ByteArray)(w:World)(hz:n<=zs.length)(hbig:n<=9223372036854775807)(hc:∀j,j<zs.length->w.cell? ⟨b,off+j,none⟩=some (.string (zs.getD j ByteArray.empty))):
  aH3 91 #[.slice (some ⟨b,off,none⟩) n c,.string x] w λe w'=>e=.returned (.int .i64 (Lib.idxOfS (zs.take n) x))/\w'=w:=Any.slices_Index_string Tryz.lays109 b off n c zs x w hz hbig hc
def Tryz.lays110_ren:Go.Shelf.Ren:=⟨λ|110=>95|109=>91|n=>n,λ|31=>25|9=>9|4=>4|3=>3|0=>0|n=>n,λ|n=>n⟩
def Tryz.lays110:Go.Proofs.Lays.n110 aM Tryz.lays110_ren:={
 mixed:=by kernel_rfl
 f109:=bg Tryz.func91
 f110:=bg Tryz.func95
 t0:=Tryz.underlying0
 a0:=Tryz.isAgg0
 z0:=Tryz.sizeOf0
 v0:=Tryz.zeroValue0
 t3:=Tryz.underlying3
 a3:=Tryz.isAgg3
 z3:=Tryz.sizeOf3
 v3:=Tryz.zeroValue3
 t4:=Tryz.underlying4
 a4:=Tryz.isAgg4
 z4:=Tryz.sizeOf4
 v4:=Tryz.zeroValue4
 t9:=Tryz.underlying9
 a9:=Tryz.isAgg9
 z9:=Tryz.sizeOf9
 v9:=Tryz.zeroValue9
 t31:=Tryz.underlying25
 a31:=Tryz.isAgg25
 z31:=Tryz.sizeOf25
 v31:=Tryz.zeroValue25}
open Go.Lib in
def Tryz.slices_Contains_string(b off n c:Nat)(zs:List ByteArray)(x:ByteArray)(w:World)(hz:n<=zs.length)(hbig:n<=9223372036854775807)(hc:∀j,j<zs.length->w.cell? ⟨b,off+j,none⟩=some (.string (zs.getD j ByteArray.empty))):
  aH3 95 #[.slice (some ⟨b,off,none⟩) n c,.string x] w λe w'=>e=.returned (.bool (Lib.containsS (zs.take n) x))/\w'=w:=Any.slices_Contains_string Tryz.lays110 b off n c zs x w hz hbig hc
open Go.Lib in
def Tryz.slices_Contains_string_empty(a:Option Addr)(c:Nat)(x:ByteArray)(w:World):
  aH3 95 #[.slice a 0 c,.string x] w λe w'=>e=.returned (.bool false)/\w'=w:=Any.slices_Contains_string_empty Tryz.lays110 a c x w
def Tryz.lays193_ren:Go.Shelf.Ren:=⟨λ|193=>98|n=>n,λ|31=>25|9=>9|4=>4|3=>3|0=>0|n=>n,λ|n=>n⟩
def Tryz.lays193:Go.Proofs.Lays.n193 aM Tryz.lays193_ren:={
 mixed:=by kernel_rfl
 f193:=bg Tryz.func98
 t0:=Tryz.underlying0
 a0:=Tryz.isAgg0
 z0:=Tryz.sizeOf0
 v0:=Tryz.zeroValue0
 t3:=Tryz.underlying3
 a3:=Tryz.isAgg3
 z3:=Tryz.sizeOf3
 v3:=Tryz.zeroValue3
 t4:=Tryz.underlying4
 a4:=Tryz.isAgg4
 z4:=Tryz.sizeOf4
 v4:=Tryz.zeroValue4
 t9:=Tryz.underlying9
 a9:=Tryz.isAgg9
 z9:=Tryz.sizeOf9
 v9:=Tryz.zeroValue9
 t31:=Tryz.underlying25
 a31:=Tryz.isAgg25
 z31:=Tryz.sizeOf25
 v31:=Tryz.zeroValue25}
open Go.RowKit Go.Lib in
def Tryz.slices_Equal_string(b1 o1 n c b2 o2 m d:Nat)(xs ys:List ByteArray)(w:World)(hx:n<=xs.length)(hy:m<=ys.length)(hbig:n<=9223372036854775807)(hbig2:m<=9223372036854775807)(hc1:∀j,j<xs.length->w.cell? ⟨b1,o1+j,none⟩=some (.string (xs.getD j ByteArray.empty)))(hc2:∀j,j<ys.length->w.cell? ⟨b2,o2+j,none⟩=some (.string (ys.getD j ByteArray.empty))):
  aH3 98 #[.slice (some ⟨b1,o1,none⟩) n c,.slice (some ⟨b2,o2,none⟩) m d] w λe w'=>e=.returned (.bool (decide (xs.take n=ys.take m)))/\∃q,w'=w.drewN q:=Any.slices_Equal_string Tryz.lays193 b1 o1 n c b2 o2 m d xs ys w hx hy hbig hbig2 hc1 hc2
def Tryz.aoz:Go.Shelf.Ren:=⟨λ|17=>97|n=>n,λ|24=>25|9=>9|3=>3|4=>4|0=>0|n=>n,λ|n=>n⟩
def Tryz.abJ:Go.Proofs.Lays2.n17 aM Tryz.aoz:={
 mixed:=by kernel_rfl
 f17:=bg Tryz.func97
 t0:=Tryz.underlying0
 a0:=Tryz.isAgg0
 z0:=Tryz.sizeOf0
 v0:=Tryz.zeroValue0
 t3:=Tryz.underlying3
 a3:=Tryz.isAgg3
 z3:=Tryz.sizeOf3
 v3:=Tryz.zeroValue3
 t4:=Tryz.underlying4
 a4:=Tryz.isAgg4
 z4:=Tryz.sizeOf4
 v4:=Tryz.zeroValue4
 t9:=Tryz.underlying9
 a9:=Tryz.isAgg9
 z9:=Tryz.sizeOf9
 v9:=Tryz.zeroValue9
 t24:=Tryz.underlying25
 a24:=Tryz.isAgg25
 z24:=Tryz.sizeOf25
 v24:=Tryz.zeroValue25}
open Go.RowKit Go.Lib Go.Sort in
def Tryz.slices_Reverse_string(blk off cap:Nat)(zs:List (List UInt8))(w:World)(hH:Holds encStr w blk off zs.toArray)(hsz:zs.length<=9223372036854775807):
  aH3 97 #[.slice (some ⟨blk,off,none⟩) zs.length cap] w λe w'=>e=.returned (.tuple #[])/\∃n,w'=putRow encStr (Sort.ahead w n) blk off zs.reverse.toArray:=Any.slices_Reverse_string Tryz.abJ blk off cap zs w hH hsz
open Go.RowKit Go.Lib Go.Sort in
def Tryz.slices_Reverse_string_empty(a:Option Addr)(cap:Nat)(w:World):
  aH3 97 #[.slice a 0 cap] w λe w'=>e=.returned (.tuple #[])/\w'=w:=Any.slices_Reverse_string_empty Tryz.abJ a cap w
open Go.RowKit Go.Sort in
def Tryz.slices_Sort_string_none(p:Option Addr)(cap:Nat)(w:World):
  aH3 94 #[.slice p 0 cap] w λe w'=>e=.returned (.tuple #[])/\w'=w:=Any.slices_Sort_string_none Tryz.lays190 p cap w
open Go.RowKit Go.Lib in
def Tryz.slices_Equal_string_lens(a1 a2:Option Addr)(n c m d:Nat)(w:World)(hnm:n≠m):
  aH3 98 #[.slice a1 n c,.slice a2 m d] w λe w'=>e=.returned (.bool false)/\w'=w:=Any.slices_Equal_string_lens Tryz.lays193 a1 a2 n c m d w hnm
end Go.Proofs
namespace Go.Proofs.YtihaaoehhgmphaaGreatDoor
open IntKind Go.RowKit Vc
variable{w:World}
structure Env(w:World):Prop where
 tab:Lib.TabIs aM w "internal/strconv.uint64pow10" .u64 Lib.pow10Tab
 es:∃v:Value,v.oneCell'=true/\w.cell? ⟨4,0,none⟩=some v
 er:∃v:Value,v.oneCell'=true/\w.cell? ⟨5,0,none⟩=some v
def axC{P:Program}{name:String}{g:Nat}{cs:Array Value}(hg:P.globalNamed name=some g)(h:w.var? P name=some cs):g<w.heap.size:=by
 unfold World.var? at h;rw[hg]at h;simp only[Yj]at h;cases hh:w.heap[g]? with
 |none=>rw[hh]at h;cases h
 |some o=>exact(oP.1 hh).1
def asK{P:Program}{name:String}{g:Nat}{k:IntKind}{zs:List Int}{w':World}(hg:P.globalNamed name=some g)(h:Lib.TabIs P w name k zs)(hm:Still w w'):Lib.TabIs P w' name k zs:=by have hlt:=axC hg h;unfold Lib.TabIs World.var? at h⊢;rw[hg]at h⊢;simp only[Yj]at h⊢;rw[hm.block g hlt (λh=>h)];exact h
def Env.still{w':World}(h:Env w)(hm:Still w w'):Env w':=by obtain⟨h1,⟨v2,o2,c2⟩,⟨v3,o3,c3⟩⟩:=h;exact⟨asK (g:=3) (by kernel_rfl) h1 hm,⟨v2,o2,hm.cell c2⟩,⟨v3,o3,hm.cell c3⟩⟩
def aaA(w:World)(k:Nat)(os:Array Obj):Still w (Go.Sort.grow (w.drewN k) os):=
 ⟨rfl,rfl,rfl,by simp[Go.Sort.grow,World.drewN],λi hi _=>by simp[Go.Sort.grow,World.drewN,Array.getElem?_append_left hi]⟩
def aKW(h:Env w)(n:Int)(h0: -9223372036854775808<=n)(h1:n<9223372036854775808):aH3 qY #[.int .i64 n] w (λe w'=>e=.returned (.string (S (Lib.itoa n)))/\Still w w'):=by refine(Tryz.strconv_Itoa n h0 (by omega) w h.tab).mono ?_;rintro _ w' ⟨rfl,k,os,rfl⟩;exact⟨rfl,aaA w k os⟩
def aq7(w:World)(g n:Nat):Mod (λk=>k=g) w (w.freeze ⟨g,0,none⟩ n):=by
 unfold World.freeze;split
 .exact Mod.refl _ _
 .exact⟨rfl,rfl,rfl,by simp,λk hk hn=>by simp only[Fk];rw[aL (λe=>hn e.symm)]⟩
def aaB(s:ag)(hs:s.length<=140737488355328):aH3 Jw #[.string (S s)] w (λe w'=>e=.returned (.string (S s))/\Still w w'):=by
 refine ajJ _ _ _ ?_;refine aB (λh=>?_) (λh=>?_)
 .have h:s.length=0:=by have:=aT h;omega
  obtain rfl:=mH h;exact⟨rfl,Still.refl _⟩
 have h:s.length≠0:=by have:=a_ h;omega
 have h0:s≠[]:=λe=>h (by rw[e];rfl);refine⟨by omega,by omega,by omega,by omega,l9 ?_⟩;have UD:(madeCells #[(.int .u8 (0:Int))] (Int.toNat (s.length:Int)*1)).size=s.length:=by rw[size_madeCells];simp
 have aKE:Still w (w.alloc (.cells (madeCells #[(.int .u8 (0:Int))] (Int.toNat (s.length:Int)*1)) 5)):=(Mod.refl _ _).alloc _;have sW:Row (w.alloc (.cells (madeCells #[(.int .u8 (0:Int))] (Int.toNat (s.length:Int)*1)) 5)) w.heap.size 5 (madeCells #[(.int .u8 (0:Int))] (Int.toNat (s.length:Int)*1)):=Row.new _ _ _;generalize w.alloc (.cells (madeCells #[(.int .u8 (0:Int))] (Int.toNat (s.length:Int)*1)) 5)=w1 at*;generalize madeCells #[(.int .u8 (0:Int))] (Int.toNat (s.length:Int)*1)=UE at*;have ebc:(s.take (min (Int.toNat (s.length:Int)) s.length)).map (λb=>Value.int .u8 b.toNat)=bc s:=by rw[bT,Nat.min_self,oT];rfl
 refine⟨bc s,Tv s,ebc.symm,.inr ⟨w.heap.size,0,UE.toList,5,rfl,sW,by rw[Gh];simp[UD],l9 ?_⟩⟩;have hcs:UE.toList.take 0++(bc s++UE.toList.drop (0+(bc s).length))=bc s:=by rw[Gh,XC (by simp[UD])];simp
 rw[hcs];have cG:=sW.setRow ⟨bc s⟩ (by simp[UD]);have aJi:Still w (w1.setRow w.heap.size ⟨bc s⟩):=aKE.setRow (.inr (aW _)) _;generalize w1.setRow w.heap.size ⟨bc s⟩=w2 at*;refine⟨by decide,by omega,s,rfl,by omega,.inr ⟨h0,w.heap.size,s.length,rfl,by obtain⟨fz,hh,_⟩:=cG;show World.shape? _ _=_;simp[World.shape?,hh],aW _,λj x hx=>?_,rfl,aJi.box (aW _) (aq7 _ _ _)⟩⟩;exact(by rw[bR,cE]:(Addr.mk w.heap.size 0 none).add j=Addr.mk w.heap.size j none)▸cG.aj (DS hx)
def anv(he:Env w)(f s:ag)(hs:s.length<=140737488355328):aH3 Pd #[.string (S f),.string (S s)] w (λe w'=>(∃p,e=.returned (.pointer p))/\Still w w'):=by refine aku _ _ _ _ ?_;obtain⟨v,h1,h2⟩:=he.es;refine⟨λwq=>Still w wq,(Still.refl _).cK,v,h1,λwq hq=>hq.cell h2,(aaB s hs).mono ?_⟩;rintro _ w1 ⟨rfl,hs1⟩;have hst:=(Still.refl w).cK.trans hs1;exact .inl ⟨_,rfl,hst,by refine Ux h1 (l9 ⟨⟨_,rfl⟩,hst.alloc _⟩)⟩
def anQ(he:Env w)(f s:ag)(hs:s.length<=140737488355328):aH3 Pq #[.string (S f),.string (S s)] w (λe w'=>(∃p,e=.returned (.pointer p))/\Still w w'):=by refine akU _ _ _ _ ?_;obtain⟨v,h1,h2⟩:=he.er;refine⟨λwq=>Still w wq,(Still.refl _).cK,v,h1,λwq hq=>hq.cell h2,(aaB s hs).mono ?_⟩;rintro _ w1 ⟨rfl,hs1⟩;have hst:=(Still.refl w).cK.trans hs1;exact .inl ⟨_,rfl,hst,by refine Ux h1 (l9 ⟨⟨_,rfl⟩,hst.alloc _⟩)⟩
abbrev AE(k:Nat):Value:=.iface 340 (.int .i64 (k:Int))
def Zq(he:Env w)(f s:ag)(b z:Int)(hs:s.length<=140737488355328){k:Nat}(hk:k=1\/k=2):
  aH3 J7 #[.string (S f),.string (S s),.int .i64 b,.int .i64 z,AE k] w (λe w'=>(∃t v,e=.returned (.iface t v))/\Still w w'):=by
 refine alI _ _ _ _ _ _ _ ?_;refine⟨rfl,rfl,?_⟩;rcases hk with rfl|rfl
 .refine aB (λh=>by cases h) (λ_=>⟨rfl,rfl,aB (λ_=>?_) (λh=>by cases h)⟩)
  refine(anQ he f s hs).mono ?_;rintro _ w1 ⟨⟨p,rfl⟩,hs1⟩;exact .inl ⟨_,rfl,⟨_,_,rfl⟩,hs1⟩
 .refine aB (λ_=>?_) (λh=>by cases h)
  refine(anv he f s hs).mono ?_;rintro _ w1 ⟨⟨p,rfl⟩,hs1⟩;exact .inl ⟨_,rfl,⟨_,_,rfl⟩,hs1⟩
def Read(r:Pr Int)(a b:Value):Prop:=match r with
 |.ok n=>a=.int .i64 n/\b=.nilIface
 |.bad k=>(∃m:Int,a=.int .i64 m/\-9223372036854775808<=m/\m<9223372036854775808)/\b=AE k
def Ud(r:Pr Nat)(a b:Value):Prop:=match r with
 |.ok n=>a=.int .u64 (n:Int)/\b=.nilIface
 |.bad k=>(a=.int .u64 (if k=1 then 18446744073709551615 else 0))/\b=AE k
def axD(c:UInt8):bits .or .u8 (c.toNat:Int) 32=((aJh c:Nat):Int):=by
 have h:∀n:Nat,n<256->bits .or .u8 (n:Int) 32=((n|||32:Nat):Int):=by decide+kernel
 rw[h _ c.toNat_lt];unfold aJh;rw[UInt8.toNat_or];rfl
def aLC(c:UInt8):aH3 zi #[.int .u8 (c.toNat:Int)] w (λe w'=>e=.returned (.int .u8 ((aJh c:Nat):Int))/\w'=w):=
 ajW _ _ _ ⟨by rw[axD],rfl⟩
def wrap_u8{n:Int}(h0:0<=n)(h1:n<256):u8.wrap n=n:=by simp only[IntKind.wrap,IntKind.signed,IntKind.bits];simp;omega
def aoA{n:Int}(h0:18446744073709551616<=n)(h1:n<36893488147419103232):u64.wrap n=n-18446744073709551616:=by simp only[IntKind.wrap,IntKind.signed,IntKind.bits];simp;omega
def awc{a d:Nat}(hd:d<36)(h:¬((a:Int)+(d:Int)-18446744073709551616<(a:Int))):False:=h (by omega)
def awd(c:UInt8):aJh c<256:=(c|||32).toNat_lt
def awe{c:UInt8}{d:Nat}(h:aI3 c=some d):d<36:=by
 unfold aI3 at h;split at h
 .injection h with h;omega
 .split at h
  .injection h with h;omega
  .cases h
set_option maxRecDepth 20000 in
def aog(b:Nat)(hb:b=8\/b=10\/b=16)(z:Int)(hz:z=0\/z=64)(s:ag)(hs:s.length<=140737488355328):
  aH3 OB #[.string (S s),.int .i64 (b:Int),.int .i64 z] w (λe w'=>(∃x y,e=.returned (.tuple #[x,y])/\Ud (gW b s) x y)/\Still w w'):=by
 refine ajI _ _ _ _ _ ?_;refine aB (λh=>?_) (λh=>?_)
 .have h:=aT h
  subst h;exact⟨⟨_,_,rfl,rfl,rfl⟩,Still.refl _⟩
 have h0:s≠[]:=a_ h;have VW:gW b s=kX b s 0:=by unfold gW;rw[aL h0]
 rw[VW];have ayh:u64.wrap (b:Int)=(b:Int):=wrap_u64 (by omega) (by omega);have axE:u8.wrap (b:Int)=(b:Int):=wrap_u8 (by omega) (by omega);refine⟨λs1 b1 w1=>s=s1/\b1=(b:Int)/\w1=w,⟨λx w1=>x=true/\w1=w,?_,?_⟩,?_⟩
 .exact aB (λ_=>⟨by rw[fV];omega,rfl⟩) (λh=>by have:=a_ h;omega)
 .rintro _ _ w1 ⟨rfl,rfl⟩
  exact aB (λ_=>⟨rfl,rfl,rfl⟩) (λh=>by cases h)
 rintro _ _ _ w1 ⟨rfl,rfl,rfl⟩;refine⟨λz1 w2=>z1=64/\w2=w1,?_,?_⟩
 .rcases hz with rfl|rfl
  .exact aB (λ_=>⟨rfl,rfl⟩) (λh=>by simp at h)
  .exact aB (λh=>by simp at h) (λ_=>aB (λh=>by simp at h) (λ_=>aB (λh=>by simp at h) (λ_=>⟨rfl,rfl⟩)))
 rintro _ _ w2 ⟨rfl,rfl⟩;refine⟨λc w3=>c=((18446744073709551615/b+1:Nat):Int)/\w3=w2,?_,?_⟩
 .rcases hb with rfl|rfl|rfl
  .refine aB (λh=>by simp at h) (λ_=>aB (λh=>by simp at h) (λ_=>⟨by decide,by decide,rfl⟩))
  .exact aB (λ_=>⟨by decide,rfl⟩) (λh=>by simp at h)
  .exact aB (λh=>by simp at h) (λ_=>aB (λ_=>⟨by decide,rfl⟩) (λh=>by simp at h))
 rintro _ _ w3 ⟨rfl,rfl⟩;refine⟨by decide,by omega,λcp w4 p_ IV=>?_⟩;have jC:Still w3 w4:=(Mod.refl _ _).grown IV (λg e=>by cases e);have VX:∀{w5:World},Still w4 w5->∀{k:Nat} {c:UInt8},s[k]?=some c->w5.cell? (Addr.mk w3.heap.size k none)=some (.int .u8 (c.toNat:Int)):=λhst k c hc=>hst.cell (p_.cells rfl k _ (DS hc));have azm:u64.wrap (u64.wrap (1*2^(min (Int.toNat (u64.wrap 64)) (u64.bits)))-1)=18446744073709551615:=by decide
 rw[azm,ayh,axE];refine⟨λu n i w5=>∃k m:Nat,u=false/\n=(m:Int)/\i=(k:Int)/\k<=s.length/\m<=18446744073709551615/\kX b s 0=kX b (s.drop k) m/\w5=w4,λ_ _ i _=>s.length-i.toNat,⟨0,0,rfl,rfl,rfl,dx _,by decide,rfl,rfl⟩,?_⟩;rintro _ _ _ _ w5 ⟨k,m,rfl,rfl,rfl,hk,hm,hsc,rfl⟩;refine aB (λhx=>?_) (λhx=>?_)
 .have hx:k<s.length:=by have:=aT hx;omega
  have e1:i64.wrap ((k:Int)+1)=((k+1:Nat):Int):=by rw[wrap_i64 (by omega) (by omega)];omega
  rw[e1,mI hx]at*;have hsk:=getD_some hx;generalize s[k]=c at*;have hc256:c.toNat<256:=c.toNat_lt;have stop:∀j,kX b (c::s.drop (k+1)) m=.bad j->∀x,x=(if j=1 then 18446744073709551615 else 0:Int)->(∃x' y',(Ending.returned (.tuple #[.int .u64 x,AE j]))=.returned (.tuple #[x',y'])/\Ud (kX b s 0) x' y')/\Still w3 w5:=by rintro j hj x rfl;rw[hsc,hj];exact⟨⟨_,_,rfl,rfl,rfl⟩,jC⟩
  simp only[kX]at stop hsc;refine⟨λu n w6=>u=false/\∃d,aI3 c=some d/\d<b/\m*b+d<=18446744073709551615/\n=((m*b+d:Nat):Int)/\w6=w5,⟨by omega,by omega,_,by rw[bT,eX,bR,cE];exact VX (Still.refl _) hsk,λu d w6=>u=false/\∃d':Nat,aI3 c=some d'/\d=(d':Int)/\w6=w5,⟨λx w6=>x=false/\w6=w5,?_,?_⟩,?_⟩,?_⟩
  .refine aB (λ_=>⟨?_,rfl⟩) (λ_=>⟨rfl,rfl⟩)
   rw[aIl];omega
  .rintro _ _ w6 ⟨rfl,rfl⟩
   refine aB (λh=>by cases h) (λ_=>⟨λx w7=>x=(decide (48<=c.toNat/\c.toNat<=57))/\w7=w6,?_,?_⟩)
   .refine aB (λh1=>⟨?_,rfl⟩) (λh1=>⟨?_,rfl⟩)
    .have h1:48<=c.toNat:=by have:=aT h1;omega
     by_cases h2:c.toNat<=57
     .rw[fV (show((c.toNat:Int)<=57) by omega),fV ⟨h1,h2⟩]
     .rw[aIl (show¬((c.toNat:Int)<=57) by omega),aIl (λh=>h2 h.2)]
    .have h1:¬48<=c.toNat:=by have:=a_ h1;omega
     rw[aIl (λh=>h1 h.1)]
   .rintro _ _ w7 ⟨rfl,rfl⟩
    refine aB (λh=>?_) (λh=>?_)
    .have h:=aT h
     refine⟨rfl,c.toNat-48,by unfold aI3;rw[aR h],?_,rfl⟩;rw[wrap_u8 (by omega) (by omega)];omega
    .have h:=a_ h
     have EM:=awd c;refine(aLC c).mono ?_;rintro _ w8 ⟨rfl,rfl⟩;refine .inl ⟨_,rfl,aB (λh2=>?_) (λh2=>?_)⟩
     .have h2:97<=aJh c:=by have:=aT h2;omega
      refine(aLC c).mono ?_;rintro _ w8 ⟨rfl,rfl⟩;refine .inl ⟨_,rfl,aB (λh3=>?_) (λh3=>?_)⟩
      .have h3:aJh c<=122:=by have:=aT h3;omega
       refine(aLC c).mono ?_;rintro _ w8 ⟨rfl,rfl⟩;refine .inl ⟨_,rfl,rfl,aJh c-97+10,by unfold aI3;rw[aL h,aR ⟨h2,h3⟩],?_,rfl⟩;have e2:u8.wrap (((aJh c:Nat):Int)-97)=((aJh c-97:Nat):Int):=by rw[wrap_u8 (by omega) (by omega)];omega
       rw[e2,wrap_u8 (by omega) (by omega)];omega
      .have h3:¬aJh c<=122:=by have:=a_ h3;omega
       have hd:aI3 c=none:=by unfold aI3;rw[aL h,aL (λh=>h3 h.2)]
       exact stop 2 (by rw[hd]) 0 rfl
     .have h2:¬97<=aJh c:=by have:=a_ h2;omega
      have hd:aI3 c=none:=by unfold aI3;rw[aL h,aL (λh=>h2 h.1)]
      exact stop 2 (by rw[hd]) 0 rfl
  .rintro _ _ _ w6 ⟨rfl,d,hd,rfl,rfl⟩
   have azn:=awe hd;rw[hd]at stop hsc;dsimp only at stop hsc;refine aB (λh1=>?_) (λh1=>?_)
   .have h1:b<=d:=by have:=aT h1;omega
    exact stop 2 (by rw[aR h1]) 0 rfl
   have h1:¬b<=d:=by have:=a_ h1;omega
   rw[aL h1]at stop hsc;have ov:18446744073709551615<m*b+d->∀x,x=(18446744073709551615:Int)->(∃x' y',(Ending.returned (.tuple #[.int .u64 x,AE 1]))=.returned (.tuple #[x',y'])/\Ud (kX b s 0) x' y')/\Still w3 w6:=λh x hx=>stop 1 (by rw[aR h]) x (by rw[hx];rfl);have hdm:=Nat.div_add_mod 18446744073709551615 b;have hml:=FZ 18446744073709551615 (show 0<b by omega);refine aB (λh2=>?_) (λh2=>?_)
   .have h2:18446744073709551615/b+1<=m:=by have:=aT h2;omega
    have h3:b*(18446744073709551615/b+1)<=b*m:=XO _ h2;have h4:b*m=m*b:=Kv _ _;rw[Nat.mul_add]at h3;exact ov (by omega) _ rfl
   have h2:m<=18446744073709551615/b:=by have:=a_ h2;omega
   have h3:b*m<=b*(18446744073709551615/b):=XO _ h2;have h4:b*m=m*b:=Kv _ _;have e2:u64.wrap ((m:Int)*(b:Int))=((m*b:Nat):Int):=by
    have:((m:Int)*(b:Int))=((m*b:Nat):Int):=by push_cast;rfl
    rw[this];exact wrap_u64 (by omega) (by omega)
   have e3:u64.wrap (d:Int)=(d:Int):=wrap_u64 (by omega) (by omega);rw[e2,e3]
   by_cases hov:18446744073709551615<m*b+d
   .have e4:u64.wrap (((m*b:Nat):Int)+(d:Int))=(((m*b:Nat):Int)+(d:Int)-18446744073709551616):=by
     rw[aoA (by omega) (by omega)]
    rw[e4];refine aB (λ_=>ov hov _ rfl) (λh5=>?_);have h6:=a_ h5;exact(awc azn h6).elim
   .have e4:u64.wrap (((m*b:Nat):Int)+(d:Int))=((m*b+d:Nat):Int):=by
     rw[wrap_u64 (by omega) (by omega)];omega
    rw[e4];refine aB (λh5=>?_) (λ_=>aB (λh5=>?_) (λ_=>⟨rfl,d,hd,by omega,by omega,rfl,rfl⟩))
    .have:=aT h5
     omega
    .have:=aT h5
     omega
  .rintro _ _ _ w6 ⟨rfl,d,hd,hdb,hle,rfl,rfl⟩
   rw[hd]at hsc;dsimp only at hsc;rw[aL (by omega),aL (by omega)]at hsc;exact⟨⟨k+1,m*b+d,rfl,rfl,rfl,hx,hle,hsc,rfl⟩,by dsimp only;omega⟩
 .have hx:k=s.length:=by have:=a_ hx;omega
  subst hx;rw[vP]at hsc;refine aB (λh=>by cases h) (λ_=>⟨⟨_,_,rfl,?_⟩,jC⟩);rw[hsc];exact⟨rfl,rfl⟩
def two63{z:Int}(hz:z=64):u64.wrap (1*2^(min (Int.toNat (u64.wrap (i64.wrap (z-1)))) (u64.bits)))=9223372036854775808:=by subst hz;decide
def auU{m:Nat}(h:¬9223372036854775808<m):i64.wrap (0-i64.wrap (m:Int))= -(m:Int):=by simp only[IntKind.wrap,IntKind.signed,IntKind.bits];simp;omega
set_option maxRecDepth 20000 in
def Zd(b:Nat)(hb:b=8\/b=10\/b=16)(z:Int)(hz:z=0\/z=64)(s:ag)(hs:s.length<=140737488355328):
  aH3 C2 #[.string (S s),.int .i64 (b:Int),.int .i64 z] w (λe w'=>(∃x y,e=.returned (.tuple #[x,y])/\Read (jl b s) x y)/\Still w w'):=by
 refine ajM _ _ _ _ _ ?_;refine aB (λh=>?_) (λh=>?_)
 .have h:=aT h
  subst h;exact⟨⟨_,_,rfl,⟨_,rfl,by decide,by decide⟩,rfl⟩,Still.refl _⟩
 have h0:s≠[]:=a_ h;refine⟨λs1 neg w1=>w1=w/\jl b s=signed neg (gW b s1)/\s1.length<=140737488355328,?_,?_⟩
 .cases s with
  |nil=>exact absurd rfl h0
  |cons c t=>
   simp only[bf]at hs;refine⟨by decide,c,rfl,aB (λh1=>?_) (λh1=>?_)⟩
   .have h1:c=43:=dS.1 (aT h1)
    refine⟨by decide,by simp only[bf];omega,rfl,?_,by show t.length<=_;omega⟩;show jl b (c::t)=signed false (gW b t)
    simp only[jl];rw[aR h1]
   have h1:¬c=43:=λe=>a_ h1 (dS.2 e);refine aB (λh2=>?_) (λh2=>?_)
   .have h2:c=45:=dS.1 (aT h2)
    refine⟨by decide,by simp only[bf];omega,rfl,?_,by show t.length<=_;omega⟩;show jl b (c::t)=signed true (gW b t)
    simp only[jl];rw[aL h1,aR h2]
   have h2:¬c=45:=λe=>a_ h2 (dS.2 e);refine⟨rfl,?_,by simp only[bf];omega⟩;simp only[jl];rw[aL h1,aL h2]
 rintro s1 neg _ w1 ⟨rfl,hpi,hs1⟩;rw[hpi];refine(aog b hb z hz s1 hs1).mono ?_;rintro _ w2 ⟨⟨x,y,rfl,hr⟩,hs2⟩;have main:∃m:Nat,x=.int .u64 (m:Int)/\m<=18446744073709551615/\y.oneCell'=true/\
   ((y=.nilIface/\gW b s1=.ok m)\/(y=AE 1/\gW b s1=.bad 1/\m=18446744073709551615)\/(y=AE 2/\gW b s1=.bad 2)):=by
  cases hp:gW b s1 with
  |ok m=>rw[hp]at hr;obtain⟨rfl,rfl⟩:=hr;exact⟨m,rfl,asw hp,rfl,.inl ⟨rfl,rfl⟩⟩
  |bad k=>
   rw[hp]at hr;obtain⟨rfl,rfl⟩:=hr;rcases RB hp with rfl|rfl
   .exact⟨18446744073709551615,rfl,by decide,rfl,.inr (.inl ⟨rfl,rfl,rfl⟩)⟩
   .exact⟨0,rfl,by decide,rfl,.inr (.inr ⟨rfl,rfl⟩)⟩
 obtain⟨m,rfl,hm,hy1,hy⟩:=main;refine .inl ⟨_,y,hy1,rfl,λw3=>w3=w2/\((gW b s1=.ok m)\/(gW b s1=.bad 1/\m=18446744073709551615)),⟨λq w3=>w3=w2/\((q=false/\((gW b s1=.ok m)\/(gW b s1=.bad 1/\m=18446744073709551615)))\/(q=true/\y=AE 2/\gW b s1=.bad 2)),?_,?_⟩,?_⟩
 .rcases hy with⟨rfl,hp⟩|⟨rfl,hp,VV⟩|⟨rfl,hp⟩
  .exact⟨rfl,.inl ⟨rfl,.inl hp⟩⟩
  .exact⟨rfl,rfl,rfl,.inl ⟨rfl,.inr ⟨hp,VV⟩⟩⟩
  .exact⟨rfl,rfl,rfl,.inr ⟨rfl,rfl,hp⟩⟩
 .rintro _ _ w3 ⟨rfl,⟨rfl,h⟩|⟨rfl,rfl,h⟩⟩
  .exact⟨rfl,h⟩
  .rw[h]
   exact⟨⟨_,_,rfl,⟨_,rfl,by decide,by decide⟩,rfl⟩,hs2⟩
 clear hy hy1 hr;rintro _ w3 ⟨rfl,hp⟩;have sg:signed neg (gW b s1)=if neg=true then(if 9223372036854775808<m then .bad 1 else .ok (-(m:Int)))else if 9223372036854775808<=m then .bad 1 else .ok (m:Int):=by
  rcases hp with hp|⟨hp,rfl⟩
  .rw[hp];rfl
  .rw[hp];cases neg<;>rfl
 rw[sg];clear sg hp;rcases hz with rfl|rfl<;>first|refine aB (λh=>absurd h (by decide)) (λ_=>?_)|refine aB (λ_=>?_) (λh=>absurd h (by decide))
 all_goals
  refine⟨by decide,?_⟩;rw[two63 rfl];cases neg with
  |false=>
   refine aB (λ_=>?_) (λh=>by cases h);refine aB (λh=>?_) (λh=>?_)
   .have h:9223372036854775808<=m:=by have:=aT h;omega
    rw[aL (by decide),aR h];exact⟨⟨_,_,rfl,⟨_,rfl,by decide,by decide⟩,rfl⟩,hs2⟩
   .have h:¬9223372036854775808<=m:=by have:=a_ h;omega
    rw[aL (by decide),aL h];refine aB (λh=>by cases h) (λ_=>aB (λh=>by cases h) (λ_=>⟨⟨_,_,rfl,?_,rfl⟩,hs2⟩));rw[wrap_i64 (by omega) (by omega)]
  |true=>
   refine aB (λh=>by cases h) (λ_=>aB (λ_=>?_) (λh=>by cases h));refine aB (λh=>?_) (λh=>?_)
   .have h:9223372036854775808<m:=by have:=aT h;omega
    rw[aR rfl,aR h];exact⟨⟨_,_,rfl,⟨_,rfl,by decide,by decide⟩,rfl⟩,hs2⟩
   .have h:¬9223372036854775808<m:=by have:=a_ h;omega
    rw[aR rfl,aL h];refine aB (λ_=>⟨⟨_,_,rfl,?_,rfl⟩,hs2⟩) (λh=>by cases h);rw[auU h]
def ayi{c:UInt8}:(decide ((9:Int)<u8.wrap ((c.toNat:Int)-48)))= !gP c:=by
 have h:∀n:Nat,n<256->decide ((9:Int)<u8.wrap ((n:Int)-48))= !(decide (48<=n)&&decide (n<=57)):=by decide+kernel
 exact h _ c.toNat_lt
def ayj{c:UInt8}(h:gP c=true):u8.wrap ((c.toNat:Int)-48)=((c.toNat-48:Nat):Int)/\c.toNat-48<=9:=by unfold gP at h;simp only[eC,kQ]at h;rw[wrap_u8 (by omega) (by omega)];omega
def awf{c:UInt8}(h:gP c=false):∀d,aI3 c=some d->10<=d:=by
 intro d hd;unfold gP at h;unfold aI3 at hd;rw[aL (by intro h2;rw[fV h2.1,fV h2.2]at h;cases h)]at hd;split at hd
 .injection hd with hd;omega
 .cases hd
def acH{k:Nat}(h:k<=18):10^k<=1000000000000000000:=lH (O7 (by decide) h) (by decide)
set_option maxRecDepth 20000 in
def awg(s:ag)(hs:s.length<=140737488355328):
  aH3 OT #[.string (S s)] w (λe w'=>(∃x y,e=.returned (.tuple #[x,y])/\y.oneCell'=true/\Read (jl 10 s) x y)/\Still w w'):=by
 refine aj5 _ _ _ ?_;have UF:aH3 C2 #[.string (S s),.int .i64 ((10:Nat):Int),.int .i64 0] w (λe w'=>(∃x y,e=.returned (.tuple #[x,y])/\y.oneCell'=true/\∃n:Int,x=.int .i64 n/\Read (jl 10 s) x y)/\Still w w'):=by
  refine(Zd 10 (.inr (.inl rfl)) 0 (.inl rfl) s hs).mono ?_;rintro _ w1 ⟨⟨x,y,rfl,hr⟩,hs1⟩;refine⟨⟨x,y,rfl,?_⟩,hs1⟩;cases hp:jl 10 s with
  |ok n=>rw[hp]at hr;obtain⟨rfl,rfl⟩:=hr;exact⟨rfl,_,rfl,rfl,rfl⟩
  |bad k=>rw[hp]at hr;obtain⟨⟨m,rfl,h⟩,rfl⟩:=hr;exact⟨rfl,_,rfl,⟨m,rfl,h⟩,rfl⟩
 refine aB (λh=>?_) (λ_=>?_);rotate_left
 .refine UF.mono ?_
  rintro _ w1 ⟨⟨x,y,rfl,hy,n,rfl,hr⟩,hs1⟩;exact .inl ⟨_,y,hy,rfl,⟨_,_,rfl,hy,hr⟩,hs1⟩
 refine aB (λh9=>?_) (λ_=>?_);rotate_left
 .refine UF.mono ?_
  rintro _ w1 ⟨⟨x,y,rfl,hy,n,rfl,hr⟩,hs1⟩;exact .inl ⟨_,y,hy,rfl,⟨_,_,rfl,hy,hr⟩,hs1⟩
 clear UF;have h:0<s.length:=by have:=aT h;omega
 have h9:s.length<19:=by have:=aT h9;omega
 obtain⟨c,t,rfl⟩:∃c t,s=c::t:=by cases s with
  |nil=>exact absurd h (Dj _)
  |cons c t=>exact⟨c,t,rfl⟩
 simp only[bf]at h9;refine⟨λs1 w1=>w1=w/\s1≠[]/\s1.length<=18/\jl 10 (c::t)=signed (decide (c=45)) (gW 10 s1),⟨λq w1=>w1=w/\q=(decide (c=45)||decide (c=43)),?_,?_⟩,?_⟩
 .refine⟨by decide,c,rfl,aB (λh1=>?_) (λh1=>?_)⟩
  .have h1:c=45:=dS.1 (aT h1)
   exact⟨rfl,by rw[fV h1];rfl⟩
  .have h1:¬c=45:=λe=>a_ h1 (dS.2 e)
   refine⟨by decide,c,rfl,rfl,?_⟩;rw[aIl h1,vT];exact qW.2 (dS (a:=c) (b:=43))
 .rintro _ _ w1 ⟨rfl,rfl⟩
  have key:jl 10 (c::t)=(if c=43 then signed false (gW 10 t)else if c=45 then signed true (gW 10 t)else signed false (gW 10 (c::t))):=rfl;refine aB (λh1=>?_) (λh1=>?_)
  .have agI:jl 10 (c::t)=signed (decide (c=45)) (gW 10 t):=by
    rw[key]
    by_cases h3:c=43
    .rw[aR h3,aIl (by rw[h3];decide)]
    .have h4:c=45:=by rw[aIl h3,Bm]at h1;exact aT h1
     rw[aL h3,aR h4,fV h4]
   refine⟨by decide,by simp only[bf];omega,aB (λh2=>?_) (λh2=>?_)⟩
   .have h2:t=[]:=by have:=aT h2;apply mH;have e:((c::t).drop (Int.toNat 1)).length=t.length:=rfl;rw[e]at this;omega
    subst h2;rw[agI];exact⟨⟨_,_,rfl,rfl,⟨_,rfl,by decide,by decide⟩,rfl⟩,Still.refl _⟩
   .have h2:t≠[]:=by intro e;subst e;exact a_ h2 (by show((0:Nat):Int)<1;omega)
    exact⟨rfl,h2,by show t.length<=18;omega,agI⟩
  .have h3:¬c=43:=λe=>by rw[fV e,Bool.or_true]at h1;cases h1
   have h4:¬c=45:=λe=>by rw[fV e,Bool.true_or]at h1;cases h1
   refine⟨rfl,(λe=>by cases e),by simp only[bf];omega,?_⟩;rw[key,aL h3,aL h4,aIl h4]
 rintro s1 _ w2 ⟨rfl,hne,h18,hpi⟩;rw[hpi];have VW:gW 10 s1=kX 10 s1 0:=by unfold gW;rw[aL hne]
 rw[VW];refine⟨by omega,λcp w4 p_ IV=>?_⟩;have jC:Still w2 w4:=(Mod.refl _ _).grown IV (λg e=>by cases e);refine⟨λn i w5=>∃k m:Nat,n=(m:Int)/\i=(k:Int)/\k<=s1.length/\m<10^k/\kX 10 s1 0=kX 10 (s1.drop k) m/\w5=w4,λ_ i _=>s1.length-i.toNat,⟨0,0,rfl,rfl,dx _,by decide,rfl,rfl⟩,?_⟩;rintro _ _ _ w5 ⟨k,m,rfl,rfl,hk,hm,hsc,rfl⟩;refine aB (λhx=>?_) (λhx=>?_)
 .have hx:k<s1.length:=by have:=aT hx;omega
  have e1:i64.wrap ((k:Int)+1)=((k+1:Nat):Int):=by rw[wrap_i64 (by omega) (by omega)];omega
  rw[e1];rw[mI hx]at hsc;have hsk:=getD_some hx;generalize s1[k]=d at*;refine⟨by omega,by omega,_,by rw[bT,eX,bR,cE];exact p_.cells rfl k _ (DS hsk),?_⟩
  try dsimp only[zR]
  rw[ayi];cases hd:gP d with
  |false=>
   refine aB (λ_=>?_) (λh=>by cases h);have e2:kX 10 (d::s1.drop (k+1)) m=.bad 2:=by
    simp only[kX];cases hv:aI3 d with
    |none=>rfl
    |some v=>dsimp only;rw[aR (awf hd v hv)]
   rw[hsc,e2];exact⟨⟨_,_,rfl,rfl,⟨_,rfl,by decide,by decide⟩,rfl⟩,jC⟩
  |true=>
   refine aB (λh=>by cases h) (λ_=>?_);obtain⟨e3,h9d⟩:=ayj hd;have hp:=acH (show k+1<=18 by omega);have hp1:10^(k+1)=10^k*10:=Qx _ _;have e4:i64.wrap ((m:Int)*10)=((m*10:Nat):Int):=by rw[wrap_i64 (by omega) (by omega)];omega
   have e5:i64.wrap ((d.toNat-48:Nat):Int)=((d.toNat-48:Nat):Int):=wrap_i64 (by omega) (by omega);have e6:i64.wrap (((m*10:Nat):Int)+((d.toNat-48:Nat):Int))=((m*10+(d.toNat-48):Nat):Int):=by rw[wrap_i64 (by omega) (by omega)];omega
   rw[e3,e4,e5,e6];refine⟨⟨k+1,m*10+(d.toNat-48),rfl,rfl,hx,by omega,?_,rfl⟩,by(try dsimp only);omega⟩;rw[hsc];simp only[kX];rw[acs hd];dsimp only;rw[aL (by omega),aL (by omega)]
 .have hx:k=s1.length:=by have:=a_ hx;omega
  have hp:=acH (show k<=18 by omega);have e7:kX 10 (s1.drop k) m=.ok m:=by rw[hx,vP];rfl
  rw[hsc,e7];refine⟨by decide,c,rfl,aB (λh1=>?_) (λh1=>?_)⟩
  .have h1:c=45:=dS.1 (aT h1)
   rw[fV h1];have e8:signed true (.ok m)=.ok (-(m:Int)):=by unfold signed;dsimp only;rw[aR rfl,aL (by omega)]
   rw[e8,wrap_i64 (by omega) (by omega)];refine⟨⟨_,_,rfl,rfl,?_,rfl⟩,jC⟩;rw[Int.zero_sub]
  .have h1:¬c=45:=λe=>a_ h1 (dS.2 e)
   rw[aIl h1];have e8:signed false (.ok m)=.ok (m:Int):=by unfold signed;dsimp only;rw[aL (by decide),aL (by omega)]
   rw[e8];exact⟨⟨_,_,rfl,rfl,rfl,rfl⟩,jC⟩
def asL(he:Env w)(s:ag)(hs:s.length<=140737488355328):
  aH3 Qo #[.string (S s)] w (λe w'=>(∃x y,e=.returned (.tuple #[x,y])/\y.oneCell'=true/\(match jl 10 s with
   |.ok n=>x=.int .i64 n/\y=.nilIface
   |.bad _=>(∃m:Int,x=.int .i64 m/\-9223372036854775808<=m/\m<9223372036854775808)/\∃t v,y=.iface t v))/\Still w w'):=by
 refine amD _ _ _ ?_;refine(awg s hs).mono ?_;rintro _ w1 ⟨⟨x,y,rfl,hy,hr⟩,hs1⟩;cases hp:jl 10 s with
 |ok n=>rw[hp]at hr;obtain⟨rfl,rfl⟩:=hr;exact .inl ⟨_,_,rfl,rfl,⟨_,_,rfl,rfl,rfl,rfl⟩,hs1⟩
 |bad k=>rw[hp]at hr;obtain⟨⟨m,rfl,hm⟩,rfl⟩:=hr;refine .inl ⟨_,_,rfl,rfl,?_⟩;refine(Zq (he.still hs1) _ s 0 0 hs (aam hp)).mono ?_;rintro _ w2 ⟨⟨t,v,rfl⟩,hs2⟩;exact .inl ⟨_,rfl,rfl,⟨_,_,rfl,rfl,⟨m,rfl,hm⟩,t,v,rfl⟩,hs1.trans hs2⟩
def nd{p:Prop}[Decidable p](h:(!decide p)=false):p:=by simpa using h
def ZU(he:Env w)(s:ag)(hs:s.length<=140737488355328):
  aH3 Dk #[.string (S s)] w (λe w'=>(∃(m:Int) (ok:Bool),e=.returned (.tuple #[.int .i64 m,.bool ok])/\(match nT s with
   |some n=>m=(n:Int)/\ok=true
   |none=>ok=false))/\Still w w'):=by
 refine amB _ _ _ ?_;refine(asL he s hs).mono ?_;rintro _ w1 ⟨⟨x,y,rfl,hy,hr⟩,hs1⟩;cases hp:jl 10 s with
 |bad k=>
  rw[hp]at hr;obtain⟨⟨m,rfl,hm⟩,t,v,rfl⟩:=hr;refine .inl ⟨_,_,hy,rfl,?_⟩;have hn:nT s=none:=by
   cases hn:nT s with
   |none=>rfl
   |some n=>rw[RC hn]at hp;cases hp
  rw[hn];exact⟨⟨_,_,rfl,rfl⟩,hs1⟩
 |ok n=>
  rw[hp]at hr;obtain⟨rfl,rfl⟩:=hr;have hrg:=Zn hp;have no:(∀k,nT s=some k->False)->(∃(m:Int) (ok:Bool),(Ending.returned (.tuple #[.int .i64 n,.bool false]))=.returned (.tuple #[.int .i64 m,.bool ok])/\(match nT s with
   |some k=>m=(k:Int)/\ok=true
   |none=>ok=false))/\Still w w1:=by
   intro h;cases hn:nT s with
   |none=>exact⟨⟨_,_,rfl,rfl⟩,hs1⟩
   |some k=>exact(h k hn).elim
  refine .inl ⟨_,_,rfl,rfl,?_⟩;refine aB (λh0=>?_) (λh0=>?_);rotate_left
  .refine no λk hk=>?_
   have hpk:=RC hk;rw[hp]at hpk;injection hpk with hpk;have:=a_ h0;omega
  have h0:0<=n:=aT h0;obtain⟨u,rfl⟩:∃u:Nat,n=(u:Int):=⟨n.toNat,by omega⟩;refine aB (λh9=>?_) (λh9=>?_);rotate_left
  .refine no λk hk=>?_
   have:=(abv hk).2;have:=a_ h9;omega
  have h9:s.length<=9:=by have:=aT h9;omega
  refine(aKW (he.still hs1) (u:Int) hrg.1 hrg.2).mono ?_;rintro _ w2 ⟨rfl,hs2⟩;refine .inl ⟨_,rfl,?_⟩;rw[Lib.itoa_nonneg];cases hn:nT s with
  |some k=>
   have hpk:=RC hn;rw[hp]at hpk;injection hpk with hpk;obtain rfl:u=k:=by omega
   exact⟨⟨_,_,rfl,rfl,fV (abv hn).1⟩,hs1.trans hs2⟩
  |none=>refine⟨⟨_,_,rfl,aIl λe=>?_⟩,hs1.trans hs2⟩;have e:dec u=s:=e;have h:=auz (n:=u) (by rw[e];exact h9);rw[e,hn]at h;cases h
def HU(s:ag)(w:World)(p:Option Addr)(n:Nat)(k:Int):Prop:=∃l,c_ w p n l/\((k=0/\decode s=some l)\/(k=20/\n=0/\decode s=none))
def HU.still{s:ag}{w':World}{p:Option Addr}{n:Nat}{k:Int}(h:HU s w p n k)(hm:Still w w'):HU s w' p n k:=by obtain⟨l,h1,h2⟩:=h;exact⟨l,h1.still hm,h2⟩
def HU.bad{s:ag}(h:decode s=none)(w:World):HU s w none 0 20:=⟨[],c_.nil w,.inr ⟨rfl,rfl,h⟩⟩
def aV.afC{B:Nat}{e:TypeId}{size n:Nat}{p:Option Addr}{c:Nat}{xs:List Value}(h:aV w B e size (.slice p n c) n xs):n<=c:=by
 rcases h.2 with⟨he,rfl⟩|⟨g,cap,cur,he,_,_,hc,_⟩
 .exact dx _
 .injection he with _ _ e3
  subst e3;exact hc
def K3{g:FuncId}{first cap:List Value}{K:FuncId->List Value->List Value->Prop}(h:K g first cap):gN (.func (.func g) ⟨first⟩ ⟨cap⟩) K:=h
def axF:mS 86 2 0:=by unfold mS;kernel_rfl
def ao9{w0:World}{g B:Nat}{cs:List Value}{v:Value}{bs:List UInt8}(he:Env w0)(h0:Still w0 w)(hb:ef w 86 g 0 B cs v bs)(hcs:cs.length=2)(hg:w0.heap.size<=g)(EN:w0.heap.size<=B)(hB:B<=w.heap.size)
  (x:ag)(hx:(dec x.length).length<=9)(NH:bs.length+x.length<=70000000000000):
  aH3 Dg #[.pointer (some ⟨g,0,none⟩),.string (S x)] w (λe w'=>e=.returned (.pointer (some ⟨g,0,none⟩))/\∃cs' v',cs'.length=2/\ef w' 86 g 0 B cs' v' (bs++one x)/\Still w0 w'/\w.heap.size<=w'.heap.size):=by
 refine alZ _ _ _ _ ?_;refine(aKW (he.still h0) (x.length:Int) (by omega) (by omega)).mono ?_;rintro _ w1 ⟨rfl,hs1⟩;rw[Lib.itoa_nonneg];have hdx:(Lib.decDigits x.length).length<=9:=hx;have ho:((((dec x.length)++[58])++x)++[44]).length<=11+x.length:=by simp only[aIa,bf,cm];omega
 refine .inl ⟨_,rfl,?_⟩;have VY:([58]:List UInt8).length=1:=rfl;have el2:([44]:List UInt8).length=1:=rfl;refine⟨by rw[VY];omega,by rw[aIa,VY];omega,by rw[aIa,aIa,VY,el2];omega,?_⟩;refine(aKu (hb.still hs1) (by rw[hcs];exact axF) (one x) (by have:=hs1.size;omega) (by have:(one x).length<=11+x.length:=ho;omega)).mono ?_;rintro _ w2 ⟨rfl,v',h1,h2⟩;refine .inl ⟨_,_,rfl,rfl,rfl,_,v',by simp[hcs],h1,?_,?_⟩
 .refine Mod.trans (h0.trans hs1) h2 (λ_ h=>h) (λi hi e=>?_)
  rcases e with rfl|e
  .omega
  .have:=hb.own.mR e
   omega
 .have:=hs1.size
  have:=h2.size;omega
set_option maxRecDepth 10000 in
def asM{w0:World}{g B:Nat}{cs:List Value}(he:Env w0)(h0:Still w0 w)(hb:ef w 86 g 0 B cs (.slice none 0 0) [])(hcs:cs.length=2)(hg:w0.heap.size<=g)(EN:w0.heap.size<=B)(hB:B<=w.heap.size)
  {l:Option Addr}{lL lC:Nat}{ls:List ag}(hl:c_ w0 l lL ls)(ht:total ls<=100000):
  aH3 Ow #[.slice l lL lC,.pointer (some ⟨g,0,none⟩),.func (.func Dg) #[] #[]] w (λe w'=>e=.returned (.pointer (some ⟨g,0,none⟩))/\∃cs' v',ef w' 86 g 0 B cs' v' (encode ls)/\Still w0 w'):=by
 refine ajv _ _ _ _ _ _ _ ?_;have hn9:=acv ht;have hlen:=hl.1;have htl:=ao1 ls;refine⟨λr x w1=>∃(i:Nat) (cs:List Value) (v:Value),r=some ⟨g,0,none⟩/\x=(i:Int)/\i<=lL/\cs.length=2/\ef w1 86 g 0 B cs v (encode (ls.take i))/\Still w0 w1/\B<=w1.heap.size,λ_ x _=>lL-x.toNat,
  ⟨0,cs,_,rfl,rfl,dx _,hcs,hb,h0,hB⟩,?_⟩
 rintro _ _ _ w1 ⟨i,cs1,v,rfl,rfl,hi,azo,jg,hs1,hB1⟩;refine aB (λhx=>?_) (λhx=>?_)
 .have hx:i<lL:=by have:=aT hx;omega
  have e1:i64.wrap ((i:Int)+1)=((i+1:Nat):Int):=by rw[wrap_i64 (by omega) (by omega)];omega
  obtain⟨a,rfl,hc⟩:=(hl.still hs1).get hx;refine⟨by omega,by omega,_,by rw[bT,eX];exact hc,K3 (g:=Dg) (first:=[]) (cap:=[]) ?_⟩;refine aB (λ_=>?_) (λh=>absurd h (by rw[show dP aM Dg=true by kernel_rfl];decide));have hil:i<ls.length:=by omega
  have htk:=DC hil;have hmem:ls[i]∈ls:=ou hil;have hel:=K0 (l:=ls.take i) (λx hx=>hn9 x (O8 hx));have htt:=aox ls i;have hm:=abw hmem;refine(ao9 he hs1 jg azo hg EN hB1 ls[i] (hn9 _ hmem) (by omega)).mono ?_;rintro _ w2 ⟨rfl,cs2,v2,azp,gE,hs2,jU⟩;refine .inl ⟨_,rfl,?_⟩;rw[e1];refine⟨⟨i+1,cs2,v2,rfl,rfl,hx,azp,?_,hs2,by omega⟩,by dsimp only;omega⟩;rw[htk,aow];have:encode [ls[i]]=one ls[i]:=by simp[encode]
  rw[this];exact gE
 .have hx:i=ls.length:=by have:=a_ hx;omega
  rw[hx,oT]at jg;exact⟨rfl,_,_,jg,hs1⟩
set_option maxRecDepth 10000 in
def aLp(he:Env w){l:Option Addr}{lL lC:Nat}{ls:List ag}(hl:c_ w l lL ls)(ht:total ls<=100000):
  aH3 Bn #[.slice l lL lC] w (λe w'=>e=.returned (.string (S (encode ls)))/\Still w w'):=by
 refine amE _ _ _ _ _ ?_;refine aP λw1 cG hs1 hz1=>?_;refine(asM (B:=w1.heap.size) he hs1 (ef.fresh cG rfl rfl) rfl (aW _) (by omega) (aW _) hl ht).mono ?_;rintro _ w2 ⟨rfl,cs2,v2,gE,hs2⟩;refine .inl ⟨_,rfl,?_⟩;have hel:=K0 (acv ht);refine(xF gE (by omega)).mono ?_;rintro _ w3 ⟨rfl,dD⟩;refine .inl ⟨_,rfl,rfl,Mod.trans hs2 dD (λ_ h=>h) (λi hi e=>?_)⟩;have:=gE.own.mR e;omega
end Go.Proofs.YtihaaoehhgmphaaGreatDoor
namespace Go.Proofs.YtihaaoehhgmphaaGreatDoor
open IntKind Go.RowKit Vc
set_option maxRecDepth 100000
variable{w w0:World}
def Sz{g:Nat}{T:Tree}{p:ag}(h:dU w g (ri T))(ok:yN T)(hp:p.length<=1000):aH3 FH #[.map (some g),.string (S p)] w (λe w'=>e=.returned (aJ2 (ij T p))/\Still w w'):=by
 refine amg _ _ _ _ ?_;refine aP λw1 r1 s1 z1=>?_;refine aB (λhb=>?_) (λhb=>?_)
 .have e:p=[]:=aT hb
  subst e;refine aH5 (g:=w.heap.size) (o:=0) r1 (by simp) (by simp[Value.oneCell']) λw2 r2 m2 z2=>?_;exact⟨_,_,_,r2.aj rfl,r2.aj rfl,r2.aj rfl,rfl,s1.box (aW _) m2⟩
 .have e:p≠[]:=a_ hb
  refine⟨_,_,_,asv (h.still s1) ok hp,?_⟩;refine aH5 (g:=w.heap.size) (o:=0) r1 (by simp) (by simp[Value.oneCell']) λw2 r2 m2 z2=>?_;refine⟨_,_,_,r2.aj rfl,r2.aj rfl,r2.aj rfl,?_,s1.box (aW _) m2⟩;rw[ij,aL e];rfl
def SA(he:Env w){n:Int}(h0:0<=n)(h1:n<=255):aH3 qY #[.int .i64 n] w (λe w'=>e=.returned (.string (S (dec n.toNat)))/\Still w w'):=by refine(aKW he n (by omega) (by omega)).mono ?_;rintro _ w1 ⟨rfl,s1⟩;refine⟨?_,s1⟩;unfold Lib.itoa;rw[aL (by omega)]
def GZ{n:Nat}(h:n<=255):(dec n).length<=20:=by have:=Lo (n:=n) (by omega);omega
def ZV(he:Env w){x:aIR}(hx:AV x)(hd:x.d.length<=50000):aH3 Kz #[aJ2 x] w (λe w'=>(∃s:ag,e=.returned (.string (S s)))/\Still w w'):=by
 refine amW _ _ _ _ _ ?_;refine aP λw1 r1 s1 z1=>?_;refine⟨x.k,r1.aj rfl,aB (λhb=>⟨⟨_,rfl⟩,s1⟩) (λhb=>?_)⟩;have sD:=s1.cK;refine⟨λwq=>Row wq w.heap.size qp ⟨u0 x⟩,r1.drew,x.k,λwq hq=>hq.aj rfl,x.m,λwq hq=>hq.aj rfl,x.d,λwq hq=>hq.aj rfl,?_⟩;have hk:0<=x.k/\x.k<=255:=by rcases hx.k with h|h|h<;>omega
 have hm:0<=x.m/\x.m<=255:=by have:=hx.m;omega
 refine(SA (he.still sD) hk.1 hk.2).mono ?_;rintro _ w2 ⟨rfl,s2⟩;have cZ:=sD.trans s2;refine .inl ⟨_,rfl,r1.drew.still s2,?_⟩;refine(SA (he.still cZ) hm.1 hm.2).mono ?_;rintro _ w3 ⟨rfl,s3⟩;have iK:=cZ.trans s3;refine .inl ⟨_,rfl,(r1.drew.still s2).still s3,?_⟩;refine aP λw4 r4 s4 z4=>?_;have iL:=iK.trans s4;have ra:c_ w4 (some ⟨w3.heap.size,0,none⟩) 3 [dec x.k.toNat,dec x.m.toNat,x.d]:=c_.row r4;have l1:=GZ (n:=x.k.toNat) (by omega);have l2:=GZ (n:=x.m.toNat) (by omega);refine(aLp (he.still iL) ra (by simp only[total,fW,qZ,aIV,aLm];omega)).mono ?_;rintro _ w5 ⟨rfl,s5⟩;exact .inl ⟨_,rfl,⟨_,rfl⟩,iL.trans s5⟩
structure Tb where
 gt:Nat
 go:Nat
 gr:Nat
 gw:Nat
def Ep(T:Tree):Prop:=yN T/\∀x∈T,x.2.d.length<=50000
def Te{T:Tree}(h:Ep T)(p:ag):(ij T p).d.length<=50000:=by
 unfold ij;split
 .exact dx _
 .have:∀{T:Tree},(∀x∈T,x.2.d.length<=50000)->(aIr T p).d.length<=50000:=by
   intro T
   induction T with
   |nil=>intro _;exact dx _
   |cons x r ih=>
    intro h;obtain⟨q,e⟩:=x;unfold aIr;split
    .exact h (q,e) (by simp)
    .exact ih λy hy=>h y (by simp[hy])
  exact this h.2
def auV{T:Tree}(h:Ep T){p:ag}{e:aIR}(hp:p.length<=1000)(he:AV e)(hd:e.d.length<=50000):Ep (qB T p e):=⟨av1 h.1 hp he,λx hx=>by
 rcases Ln hx with rfl|hx
 .exact hd
 .exact h.2 x hx⟩
structure Ar(w:World)(B g:Nat)(t:Tb)(n:Nat):Prop where
 top:Row w t.gt FV ⟨[.map (some t.go),.map (some t.gr),.map (some t.gw)]⟩
 old:∃T,dU w t.go (ri T)/\Ep T
 rd:∃l,dU w t.gr (En l)/\(∀x∈l,x.1.1.length<=1000)/\l.length<=n
 wr:∃l,dU w t.gw (mU l)/\(∀x∈l,x.length<=1000)/\l.length<=n
 low:B<=t.gt/\B<=t.go/\B<=t.gr/\B<=t.gw
 ne:g≠t.go/\g≠t.gr/\g≠t.gw/\t.go≠t.gr/\t.go≠t.gw/\t.gr≠t.gw
structure cQ(w:World)(B a g:Nat)(tr:Option Tb)(n:Nat)(T:Tree):Prop where
 top:Row w a j5 ⟨[.map (some g),.pointer (tr.map λt=>⟨t.gt,0,none⟩)]⟩
 now:dU w g (ri T)
 aIh:Ep T
 low:B<=a/\B<=g
 aJb:∀t,tr=some t->Ar w B g t n
def SF(a g:Nat)(tr:Option Tb)(k:Nat):Prop:=k=a\/k=g\/∃t,tr=some t/\(k=t.gt\/k=t.go\/k=t.gr\/k=t.gw)
section
variable{B a g n:Nat}{tr:Option Tb}{T:Tree}{w':World}{S:Nat->Prop}
def Ar.mod{t:Tb}(h:Ar w B g t n)(hm:Mod S w w')(h1:¬S t.gt)(h2:¬S t.go)(h3:¬S t.gr)(h4:¬S t.gw):Ar w' B g t n:=by obtain⟨T,o1,o2⟩:=h.old;obtain⟨l,r1,r2⟩:=h.rd;obtain⟨m,p1,p2⟩:=h.wr;exact⟨h.top.mod hm h1,⟨T,o1.mod hm h2,o2⟩,⟨l,r1.mod hm h3,r2⟩,⟨m,p1.mod hm h4,p2⟩,h.low,h.ne⟩
def Ar.up{t:Tb}{m:Nat}(h:Ar w B g t n)(hm:n<=m):Ar w B g t m:=by obtain⟨l,r1,r2,r3⟩:=h.rd;obtain⟨k,p1,p2,p3⟩:=h.wr;exact⟨h.top,h.old,⟨l,r1,r2,by omega⟩,⟨k,p1,p2,by omega⟩,h.low,h.ne⟩
def cQ.up{m:Nat}(h:cQ w B a g tr n T)(hm:n<=m):cQ w B a g tr m T:=⟨h.top,h.now,h.aIh,h.low,λt ht=>(h.aJb t ht).up hm⟩
def cQ.mod(h:cQ w B a g tr n T)(hm:Mod S w w')(hS:∀k,SF a g tr k->¬S k):cQ w' B a g tr n T:=
 ⟨h.top.mod hm (hS _ (.inl rfl)),h.now.mod hm (hS _ (.inr (.inl rfl))),h.aIh,h.low,λt ht=>(h.aJb t ht).mod hm (hS _ (.inr (.inr ⟨t,ht,.inl rfl⟩))) (hS _ (.inr (.inr ⟨t,ht,.inr (.inl rfl)⟩))) (hS _ (.inr (.inr ⟨t,ht,.inr (.inr (.inl rfl))⟩))) (hS _ (.inr (.inr ⟨t,ht,.inr (.inr (.inr rfl))⟩)))⟩
def cQ.still(h:cQ w B a g tr n T)(hm:Still w w'):cQ w' B a g tr n T:=h.mod hm λ_ _ h=>h
def cQ.me(h:cQ w B a g tr n T){k:Nat}(hk:SF a g tr k):B<=k/\k<w.heap.size:=by
 rcases hk with rfl|rfl|⟨t,ht,hk⟩
 .exact⟨h.low.1,h.top.lt⟩
 .exact⟨h.low.2,h.now.lt⟩
 .have d:=h.aJb t ht
  obtain⟨_,o1,_⟩:=d.old;obtain⟨_,r1,_⟩:=d.rd;obtain⟨_,p1,_⟩:=d.wr;rcases hk with rfl|rfl|rfl|rfl
  .exact⟨d.low.1,d.top.lt⟩
  .exact⟨d.low.2.1,o1.lt⟩
  .exact⟨d.low.2.2.1,r1.lt⟩
  .exact⟨d.low.2.2.2,p1.lt⟩
def cQ.stays(h:cQ w w0.heap.size a g tr n T)(h0:Still w0 w)(hm:Mod (SF a g tr) w w'):Still w0 w':=Mod.trans h0 hm (λ_ h=>h) (λi hi hk=>by have:=(h.me hk).1;omega)
def Tb.apart{t:Tb}(h:Ar w B g t n):t.gt≠t.go/\t.gt≠t.gr/\t.gt≠t.gw:=by obtain⟨_,o1,_⟩:=h.old;obtain⟨_,r1,_⟩:=h.rd;obtain⟨_,p1,_⟩:=h.wr;exact⟨(o1.cY h.top).symm,(r1.cY h.top).symm,(p1.cY h.top).symm⟩
end
def RF(tr:Option Tb)(k:Nat):Prop:=∃t,tr=some t/\k=t.gr
def WF(g:Nat)(tr:Option Tb)(k:Nat):Prop:=k=g\/∃t,tr=some t/\(k=t.gr\/k=t.gw)
def RF.sf{a g:Nat}{tr:Option Tb}{k:Nat}(h:RF tr k):SF a g tr k:=by obtain⟨t,ht,rfl⟩:=h;exact .inr (.inr ⟨t,ht,.inr (.inr (.inl rfl))⟩)
def WF.sf{a g:Nat}{tr:Option Tb}{k:Nat}(h:WF g tr k):SF a g tr k:=by
 rcases h with rfl|⟨t,ht,rfl|rfl⟩
 .exact .inr (.inl rfl)
 .exact .inr (.inr ⟨t,ht,.inr (.inr (.inl rfl))⟩)
 .exact .inr (.inr ⟨t,ht,.inr (.inr (.inr rfl))⟩)
def apV(he:Env w){g:Nat}{T:Tree}{p:ag}(h:dU w g (ri T))(aIh:Ep T)(hp:p.length<=1000):aH3 PL #[.map (some g),Em (p,false)] w (λe w'=>(∃s:ag,e=.returned (.string (S s)))/\Still w w'):=by refine alq _ _ _ _ _ ?_;refine aP λw1 r1 s1 z1=>?_;refine⟨_,r1.aj rfl,?_⟩;refine⟨_,r1.aj rfl,(Sz (h.still s1) aIh.1 hp).mono ?_⟩;rintro _ w2 ⟨rfl,s2⟩;refine .inl ⟨_,_,_,rfl,(ZV (he.still (s1.trans s2)) (TL aIh.1 p) (Te aIh p)).mono ?_⟩;rintro _ w3 ⟨⟨s,rfl⟩,s3⟩;exact .inl ⟨_,rfl,⟨_,rfl⟩,(s1.trans s2).trans s3⟩
def acI(w:World):(zeroValue b6).run aM w=.ok (.string (S [])) w:=rfl
def asN(w:World):(zeroValue 4).run aM w=.ok (.bool false) w:=rfl
def asO(he:Env w0)(h0:Still w0 w){a g n:Nat}{tr:Option Tb}{T:Tree}(h:cQ w w0.heap.size a g tr n T){p:ag}(hp:p.length<=1000):
  aH3 PJ #[.pointer (some ⟨a,0,none⟩),Em (p,false)] w (λe w'=>e=.returned (.tuple #[])/\cQ w' w0.heap.size a g tr (n+1) T/\Mod (RF tr) w w'):=by
 refine alp _ _ _ _ _ ?_;refine aP λw1 r1 s1 z1=>?_;have sD:=s1.cK;have hD:=h.still sD;have A2:=r1.drew;refine⟨λw2=>w2=w1.drew/\tr≠none,⟨λb w2=>w2=w1.drew/\(b=false->tr≠none),⟨λwq=>Row wq a j5 ⟨[.map (some g),.pointer (tr.map λt=>⟨t.gt,0,none⟩)]⟩/\Row wq w.heap.size aJe ⟨[.string (S p),.bool false]⟩/\∀t,tr=some t->Row wq t.gt FV ⟨[.map (some t.go),.map (some t.gr),.map (some t.gw)]⟩,⟨hD.top,A2,λt ht=>(hD.aJb t ht).top⟩,?_⟩,?_⟩,?_⟩
 .refine⟨_,λwq hq=>hq.1.aj rfl,?_⟩
  cases tr with
  |none=>exact⟨rfl,λh=>by cases h⟩
  |some t=>
   have d:=hD.aJb t rfl;obtain⟨l,p1,p2,p3⟩:=d.wr;refine⟨false,λwq hq=>hq.2.1.aj rfl,_,λwq hq=>hq.1.aj rfl,_,rfl,λwq hq=>(hq.2.2 t rfl).aj rfl,_,λwq hq=>hq.2.1.aj rfl,?_⟩;rcases DI wB TM (asN _) p1 (aJp rfl (qs hp)) (S7 p2) false with⟨v,h1,h2⟩|⟨h1,h2⟩
   .obtain⟨x,hx,e⟩:=eo.1 h1
    obtain⟨_,rfl⟩:=aKK e;exact⟨_,h2,rfl,λ_=>by simp⟩
   .exact⟨_,h2,rfl,λ_=>by simp⟩
 .rintro b _ w2 ⟨rfl,hb⟩
  cases b with
  |true=>exact⟨rfl,hD.up (Bq n),sD.weaken λ_ h=>h.elim⟩
  |false=>exact⟨rfl,hb rfl⟩
 .rintro _ w3 ⟨rfl,hb⟩
  obtain⟨t,rfl⟩:=Option.ne_none_iff_exists'.1 hb;have d:=hD.aJb t rfl;obtain⟨l,q1,q2,q3⟩:=d.rd;obtain⟨To,o1,o2⟩:=d.old;have sDD:=sD.cK;have h2:=hD.still (Still.refl _).cK;refine⟨λwq=>Row wq a j5 ⟨[.map (some g),.pointer (some ⟨t.gt,0,none⟩)]⟩/\Row wq w.heap.size aJe ⟨[.string (S p),.bool false]⟩/\Row wq t.gt FV ⟨[.map (some t.go),.map (some t.gr),.map (some t.gw)]⟩,⟨h2.top,A2.drew,(h2.aJb t rfl).top⟩,_,λwq hq=>hq.1.aj rfl,_,rfl,λwq hq=>hq.2.2.aj rfl,_,_,λwq hq=>hq.2.1.aj rfl,λwq hq=>hq.2.1.aj rfl,?_⟩;obtain⟨lk,hlk⟩:=adG (f:=(p,false)) hp;rcases DI adH aeD (acI _) ((q1.still (Still.refl _).cK)) hlk (adI q2) true with⟨v,h3,h4⟩|⟨h3,h4⟩
  .obtain⟨x,hx,e⟩:=eo.1 h3
   obtain⟨_,rfl⟩:=aKK e;exact⟨_,_,h4,rfl,h2.up (Bq n),sDD.weaken λ_ h=>h.elim⟩
  .refine⟨_,_,h4,?_⟩
   have agJ:=sDD.cK;have h5:=h2.still (Still.refl _).cK;refine⟨λwq=>Row wq a j5 ⟨[.map (some g),.pointer (some ⟨t.gt,0,none⟩)]⟩/\Row wq w.heap.size aJe ⟨[.string (S p),.bool false]⟩/\Row wq t.gt FV ⟨[.map (some t.go),.map (some t.gr),.map (some t.gw)]⟩,⟨h5.top,A2.drew.drew,(h5.aJb t rfl).top⟩,_,λwq hq=>hq.1.aj rfl,_,rfl,λwq hq=>hq.2.2.aj rfl,_,_,λwq hq=>hq.2.1.aj rfl,λwq hq=>hq.2.1.aj rfl,_,λwq hq=>hq.1.aj rfl,_,rfl,λwq hq=>hq.2.2.aj rfl,_,_,λwq hq=>hq.2.1.aj rfl,λwq hq=>hq.2.1.aj rfl,?_⟩;have o3:=(o1.still (Still.refl _).cK).still (Still.refl _).cK;refine(apV (he.still (h0.trans agJ)) o3 o2 hp).mono ?_;rintro _ w4 ⟨⟨s,rfl⟩,s4⟩;have h6:=h5.still s4;refine .inl ⟨_,rfl,⟨h6.top,(A2.drew.drew).still s4,(h6.aJb t rfl).top⟩,?_⟩;have d6:=h6.aJb t rfl;have q6:=((q1.still (Still.refl _).cK).still (Still.refl _).cK).still s4;obtain⟨w5,u1,u2,u3,u4⟩:=L5 adH aeD q6 hlk (adI q2) h3 (.string (S s));have ap:=Tb.apart d6;refine⟨w5,u1,rfl,⟨h6.top.mod u3 (λe=>?_),h6.now.mod u3 d6.ne.2.1,h6.aIh,h6.low,λt' ht'=>?_⟩,?_⟩
   .exact(q6.cY h6.top) e.symm
   .obtain rfl:=bM ht'
    obtain⟨m,p1,p2,p3⟩:=d6.wr;obtain⟨To',o4,o5⟩:=d6.old;refine⟨d6.top.mod u3 ap.2.1,⟨To',o4.mod u3 d6.ne.2.2.2.1,o5⟩,⟨l++[((p,false),s)],by simpa[En]using u2,λx hx=>?_,by simp;omega⟩,⟨m,p1.mod u3 (λe=>d6.ne.2.2.2.2.2 e.symm),p2,by omega⟩,d6.low,d6.ne⟩;rcases aIL.1 hx with hx|hx
    .exact q2 x hx
    .obtain rfl:=aIA.1 hx
     exact hp
   .exact Mod.trans (agJ.trans s4) u3 (λ_ h=>h.elim) (λi _ e=>⟨t,rfl,e⟩)
def Tf(he:Env w0)(h0:Still w0 w){a g n:Nat}{tr:Option Tb}{T:Tree}(h:cQ w w0.heap.size a g tr n T){p:ag}(hp:p.length<=1000):
  aH3 qm #[.pointer (some ⟨a,0,none⟩),.string (S p)] w (λe w'=>e=.returned (aJ2 (ij T p))/\cQ w' w0.heap.size a g tr (n+1) T/\Mod (RF tr) w w'):=by
 refine al4 _ _ _ _ ?_;refine aP λw1 r1 s1 z1=>?_;refine(asO he (h0.trans s1) (h.still s1) hp).mono ?_;rintro _ w2 ⟨rfl,h2,m2⟩;have hr:¬RF tr w.heap.size:=λhk=>by have:=(h.me (RF.sf hk)).2;omega
 have r2:=r1.mod m2 hr;refine .inl ⟨rfl,_,rfl,h2.top.aj rfl,(Sz h2.now h2.aIh.1 hp).mono ?_⟩;rintro _ w3 ⟨rfl,s3⟩;refine .inl ⟨_,_,_,rfl,aH5 (g:=w.heap.size) (o:=0) (r2.still s3) (by simp) (by simp[Value.oneCell']) λw4 r4 m4 z4=>?_⟩;have m3:Mod (RF tr) w w3:=Mod.trans (Mod.trans s1 m2 (λ_ h=>h.elim) (λ_ _ h=>h)) s3 (λ_ h=>h) (λ_ _ h=>h.elim);refine⟨_,_,_,r4.aj rfl,r4.aj rfl,r4.aj rfl,rfl,(h2.still s3).mod m4 (λk hk e=>?_),Mod.trans m3 m4 (λ_ h=>h) (λi hi e=>by omega)⟩;have:=(h.me hk).2;omega
def auW(he:Env w0)(h0:Still w0 w){a g n:Nat}{tr:Option Tb}{T:Tree}(h:cQ w w0.heap.size a g tr n T){p:ag}(hp:p.length<=1000)(hne:p≠[]){x:aIR}(hx:AV x)(hk:x.k≠0)(hd:x.d.length<=50000):
  aH3 PY #[.pointer (some ⟨a,0,none⟩),.string (S p),aJ2 x] w (λe w'=>e=.returned (.tuple #[])/\cQ w' w0.heap.size a g tr (n+1) (qB T p x)/\Mod (WF g tr) w w'):=by
 refine alK _ _ _ _ _ _ _ ?_;refine aP λw1 r1 s1 z1=>?_;have h1:=h.still s1;refine aB (λhb=>absurd (aT hb) hne) (λ_=>?_);refine⟨λw3=>cQ w3 w0.heap.size a g tr (n+1) T/\Mod (WF g tr) w w3/\Row w3 w.heap.size qp ⟨u0 x⟩,?_,?_⟩
 .refine⟨_,h1.top.aj rfl,?_⟩
  cases tr with
  |none=>exact⟨h1.up (Bq n),s1.weaken λ_ h=>h.elim,r1⟩
  |some t=>
   have d:=h1.aJb t rfl;obtain⟨l,p1,p2,p3⟩:=d.wr;refine⟨_,h1.top.aj rfl,_,rfl,d.top.aj rfl,?_⟩;have ap:=Tb.apart d;have fin:∀(l':List ag) (w2:World),dU w2 t.gw (mU l')->(∀x∈l',x.length<=1000)->l'.length<=n+1->Mod (λk=>k=t.gw) w1 w2->cQ w2 w0.heap.size a g (some t) (n+1) T/\Mod (WF g (some t)) w w2/\Row w2 w.heap.size qp ⟨u0 x⟩:=by intro l' w2 a1 a2 a3 u3;obtain⟨To,o4,o5⟩:=d.old;obtain⟨m,q1,q2,q3⟩:=d.rd;refine⟨⟨h1.top.mod u3 λe=>(p1.cY h1.top) e.symm,h1.now.mod u3 d.ne.2.2.1,h1.aIh,h1.low,λt' ht'=>?_⟩,Mod.trans s1 u3 (λ_ h=>h.elim) (λi _ e=>.inr ⟨t,rfl,.inr e⟩),r1.mod u3 λe=>(p1.cY r1) e.symm⟩;obtain rfl:=bM ht';exact⟨d.top.mod u3 ap.2.2,⟨To,o4.mod u3 d.ne.2.2.2.2.1,o5⟩,⟨m,q1.mod u3 d.ne.2.2.2.2.2,q2,by omega⟩,⟨l',a1,a2,a3⟩,d.low,d.ne⟩
   by_cases hin:p∈l
   .obtain⟨l1,l2,rfl⟩:=List.append_of_mem hin
    have hw:=S7 p2;simp only[mU,qX,fW]at p1 hw;obtain⟨w2,u1,u2,u3,u4⟩:=aeC wB TM p1 (aJp rfl (qs hp)) hw (.bool true);exact⟨w2,u1,fin (l1++p::l2) w2 (by simpa[mU]using u2) p2 (by omega) u3⟩
   .obtain⟨w2,u1,u2,u3,u4⟩:=L5 wB TM p1 (aJp rfl (qs hp)) (S7 p2) (λq hq e=>by
     obtain⟨y,hy,rfl⟩:=eo.1 hq;exact hin (by rw[<-str_inj e];exact hy)) (.bool true)
    refine⟨w2,u1,fin (l++[p]) w2 (by simpa[mU]using u2) (λy hy=>?_) (by simp;omega) u3⟩;rcases aIL.1 hy with hy|hy
    .exact p2 y hy
    .obtain rfl:=aIA.1 hy
     exact hp
 .rintro _ w3 ⟨h3,m3,r3⟩
  refine⟨_,r3.aj rfl,aB (λhb=>absurd (aT hb) hk) (λ_=>?_)⟩;have aIK:=h3.still (Still.refl _).cK;have r3D:=r3.drew;refine⟨λwq=>Row wq a j5 ⟨[.map (some g),.pointer (tr.map λt=>⟨t.gt,0,none⟩)]⟩/\Row wq w.heap.size qp ⟨u0 x⟩,⟨aIK.top,r3D⟩,_,rfl,λwq hq=>hq.1.aj rfl,_,_,_,λwq hq=>hq.2.aj rfl,λwq hq=>hq.2.aj rfl,λwq hq=>hq.2.aj rfl,?_⟩;obtain⟨w4,u1,u2,u3,u4⟩:=auw aIK.now aIK.aIh.1 hp x;refine⟨w4,u1,rfl,⟨aIK.top.mod u3 λe=>(aIK.now.cY aIK.top) e.symm,u2,auV aIK.aIh hp hx hd,aIK.low,λt ht=>?_⟩,Mod.trans m3.drew u3 (λ_ h=>h) (λi _ e=>.inl e)⟩;have d:=aIK.aJb t ht;exact d.mod u3 (λe=>(aIK.now.cY d.top) e.symm) (λe=>d.ne.1 e.symm) (λe=>d.ne.2.1 e.symm) (λe=>d.ne.2.2.1 e.symm)
def abK:Lm aM QS:=⟨_,Tryz.func336,by kernel_rfl,by kernel_rfl,by kernel_rfl,by kernel_rfl⟩
def apW{g:Nat}{es:List KV}(h:dU w g es):aH3 Oo #[.map (some g)] w (λe w'=>e=.returned (.map (some w.heap.size))/\dU w' w.heap.size es/\Still w w'/\w'.heap.size=w.heap.size+1):=by refine ajr _ _ _ ?_;obtain⟨ms,c,hg,hG⟩:=h;refine⟨abK,ms,c,hg,l9 ⟨rfl,hG.copy w,(Mod.refl _ _).alloc _,World.size_alloc ..⟩⟩
def apX{g:Nat}{es:List KV}(h:dU w g es):aH3 Om #[.map (some g)] w (λe w'=>e=.returned (.map (some w.heap.size))/\dU w' w.heap.size es/\Still w w'/\w'.heap.size=w.heap.size+1):=by refine ajo _ _ _ ?_;obtain⟨ms,c,hg,hG⟩:=h;refine⟨abK,ms,c,hg,l9 ⟨rfl,hG.copy w,(Mod.refl _ _).alloc _,World.size_alloc ..⟩⟩
def RY:aH3 F0 #[] w (λe w'=>e=.returned (.pointer (some ⟨w.heap.size+1,0,none⟩))/\cQ w' w.heap.size (w.heap.size+1) w.heap.size none 0 []/\Still w w'/\w'.heap.size=w.heap.size+2):=by refine anI _ _ ?_;have s1:Still w (w.alloc (.map #[] 0)):=(Mod.refl _ _).alloc _;have m1:=dU.new w;have z1:(w.alloc (.map #[] 0)).heap.size=w.heap.size+1:=World.size_alloc ..;refine l9 ?_;generalize w.alloc (.map #[] 0)=w1 at*;refine aP λw2 r2 s2 z2=>?_;rw[z1]at r2;refine⟨by show Ending.returned (.pointer (some ⟨w1.heap.size,0,none⟩))=_;rw[z1],⟨r2,m1.still s2,⟨λx hx=>(by cases hx),λx hx=>(by cases hx)⟩,⟨by omega,aW _⟩,λt ht=>(by cases ht)⟩,s1.trans s2,by omega⟩
def aaC{a g n:Nat}{T:Tree}(h:cQ w w0.heap.size a g none n T)(h0:Still w0 w):
  aH3 JW #[.pointer (some ⟨a,0,none⟩)] w (λe w'=>e=.returned (.tuple #[])/\∃t,cQ w' w0.heap.size a g (some t) 0 T/\Mod (λk=>k=a) w w'/\w.heap.size<=t.gt/\w.heap.size<=t.go/\w.heap.size<=t.gr/\w.heap.size<=t.gw):=by
 refine ale _ _ _ ?_;refine⟨_,rfl,h.top.aj rfl,(apW h.now).mono ?_⟩;rintro _ w1 ⟨rfl,o1,s1,z1⟩;refine .inl ⟨_,rfl,rfl,l9 ?_⟩;have s2:Still w1 (w1.alloc (.map #[] 0)):=(Mod.refl _ _).alloc _;have r2:=dU.new w1;have z2:(w1.alloc (.map #[] 0)).heap.size=w1.heap.size+1:=World.size_alloc ..;generalize w1.alloc (.map #[] 0)=w2 at*;refine l9 ?_;have s3:Still w2 (w2.alloc (.map #[] 0)):=(Mod.refl _ _).alloc _;have p3:=dU.new w2;have z3:(w2.alloc (.map #[] 0)).heap.size=w2.heap.size+1:=World.size_alloc ..;generalize w2.alloc (.map #[] 0)=w3 at*;refine Ux rfl (aP λw4 r4 s4 z4=>?_);have jV:Still w w4:=((s1.trans s2).trans s3).trans s4;have h4:=h.still jV;refine aH5 (g:=a) (o:=1) h4.top (by simp) (by simp[Value.oneCell']) λw5 r5 m5 z5=>?_;have hz:=h0.size;have la:=h.top.lt;have lg:=h.now.lt;refine⟨rfl,⟨w3.heap.size,w.heap.size,w1.heap.size,w2.heap.size⟩,⟨r5,h4.now.mod m5 (λe=>h4.now.cY h4.top e),h.aIh,h.low,λt ht=>?_⟩,Mod.trans jV m5 (λ_ h=>h.elim) (λ_ _ h=>h),by dsimp only;omega,aW _,by dsimp only;omega,by dsimp only;omega⟩;obtain rfl:=bM ht;refine⟨r4.mod m5 (by omega),⟨T,(((o1.still s2).still s3).still s4).mod m5 (by omega),h.aIh⟩,⟨[],((r2.still s3).still s4).mod m5 (by omega),λx hx=>(by cases hx),dx _⟩,⟨[],(p3.still s4).mod m5 (by omega),λx hx=>(by cases hx),dx _⟩,⟨by dsimp only;omega,by dsimp only;omega,by dsimp only;omega,by dsimp only;omega⟩,?_⟩;dsimp only;refine⟨by omega,by omega,by omega,by omega,by omega,by omega⟩
def auX(n:Nat)(hn:n<=1000000):aH3 YI #[.int .u64 (n:Int)] w (λe w'=>(∃l:Int,e=.returned (.int .i64 l))/\w'=w):=
 (Tryz.bits_Len (n:Int) w (by omega) (by omega)).mono λ_ _ h=>⟨⟨_,h.1⟩,h.2⟩
def lu(x:ag×Bool×ag):List Value:=[.string (S x.1),.bool x.2.1,.string (S x.2.2)]
def aaD(x:ag):aH3 J2 #[.string (S x)] w (λe w'=>e=.returned (.bool false)/\w'=w):=by refine alu _ _ _ ?_;simp[Ye,zR]
def ZW(x:Int):aH3 Km #[.int .i64 x] w (λe w'=>e=.returned (.bool false)/\w'=w):=by refine amo _ _ _ ?_;simp[YL,zR]
def aoB(x y:ag):aH3 aLx #[.string (S x),.string (S y)] w (λe w'=>(∃n:Int,e=.returned (.int .i64 n))/\w'=w):=by refine akV _ _ _ _ ((aaD x).mono ?_);rintro _ _ ⟨rfl,rfl⟩;refine .inl ⟨_,rfl,(aaD y).mono ?_⟩;rintro _ _ ⟨rfl,rfl⟩;exact .inl ⟨_,rfl,(show ak (Op.bytesLess x y) _ (ak (!(Op.bytesLess x y||decide (x=y))) _ _)from aB (λ_=>⟨⟨_,rfl⟩,rfl⟩) (λ_=>aB (λ_=>⟨⟨_,rfl⟩,rfl⟩) (λ_=>⟨⟨_,rfl⟩,rfl⟩)))⟩
def aoC(x y:Int):aH3 P4 #[.int .i64 x,.int .i64 y] w (λe w'=>(∃n:Int,e=.returned (.int .i64 n))/\w'=w):=by refine alO _ _ _ _ ((ZW x).mono ?_);rintro _ _ ⟨rfl,rfl⟩;refine .inl ⟨_,rfl,(ZW y).mono ?_⟩;rintro _ _ ⟨rfl,rfl⟩;exact .inl ⟨_,rfl,(show ak (decide (x<y)) _ (ak (decide (y<x)) _ _)from aB (λ_=>⟨⟨_,rfl⟩,rfl⟩) (λ_=>aB (λ_=>⟨⟨_,rfl⟩,rfl⟩) (λ_=>⟨⟨_,rfl⟩,rfl⟩)))⟩
def aaE(b:Bool):aH3 KB #[.bool b] w (λe w'=>(∃n:Int,e=.returned (.int .i64 n))/\w'=w):=by refine am1 _ _ _ ?_;exact aB (λ_=>⟨⟨_,rfl⟩,rfl⟩) (λ_=>⟨⟨_,rfl⟩,rfl⟩)
def asP(x y:ag×Bool×ag):aH3 aKL #[.agg ⟨lu x⟩,.agg ⟨lu y⟩] w (λe w'=>(∃n:Int,e=.returned (.int .i64 n))/\Still w w'):=by
 refine ann _ _ _ _ _ _ _ _ ?_;refine aP λw1 r1 s1 z1=>aP λw2 r2 s2 z2=>?_;have sD:=(s1.trans s2).cK;have A2:=(r1.still s2).drew;have VZ:=r2.drew;refine⟨λwq=>Row wq w.heap.size 321 ⟨lu x⟩/\Row wq w1.heap.size 321 ⟨lu y⟩,⟨A2,VZ⟩,_,λwq hq=>hq.1.aj rfl,_,λwq hq=>hq.2.aj rfl,_,λwq hq=>hq.1.aj rfl,_,λwq hq=>hq.2.aj rfl,(aoB _ _).mono ?_⟩;rintro _ _ ⟨⟨n1,rfl⟩,rfl⟩;refine .inl ⟨_,rfl,⟨A2,VZ⟩,(aaE _).mono ?_⟩;rintro _ _ ⟨⟨n2,rfl⟩,rfl⟩;refine .inl ⟨_,rfl,⟨A2,VZ⟩,(aaE _).mono ?_⟩;rintro _ _ ⟨⟨n3,rfl⟩,rfl⟩;refine .inl ⟨_,rfl,(aoC _ _).mono ?_⟩;rintro _ _ ⟨⟨n4,rfl⟩,rfl⟩;refine .inl ⟨_,rfl,aP λw3 r3 s3 z3=>?_⟩;refine(show aH3 QU #[.slice (some ⟨w2.drew.heap.size,0,none⟩) 2 2] w3 (λe w'=>(∃n:Int,e=.returned (.int .i64 n))/\w'=w3)from ?_).mono ?_
 .refine anq _ _ _ _ _ ?_
  refine⟨λk w4=>0<=k/\k<=2/\w4=w3,λk _=>(2-k).toNat,⟨by decide,by decide,rfl⟩,?_⟩;rintro k _ w4 ⟨h1,h2,rfl⟩;refine aB (λhk=>?_) (λ_=>⟨⟨_,rfl⟩,rfl⟩);have hk:k<2:=by simpa using hk
  have e:k=0\/k=1:=by omega
  have hv:∃v:Int,w4.cell? ((Addr.mk w2.drew.heap.size 0 none).add (k.toNat*1))=some (.int .i64 v):=by
   rw[bR];rcases e with rfl|rfl
   .exact⟨_,r3.aj rfl⟩
   .exact⟨_,r3.aj rfl⟩
  obtain⟨v,hv⟩:=hv;refine⟨h1,by simpa using hk,v,hv,aB (λ_=>⟨⟨_,rfl⟩,rfl⟩) (λ_=>?_)⟩;rw[wrap_i64 (by omega) (by omega)];refine⟨⟨by omega,by omega,rfl⟩,by dsimp only;omega⟩
 .rintro _ _ ⟨⟨n,rfl⟩,rfl⟩
  exact .inl ⟨_,rfl,⟨_,rfl⟩,sD.trans s3⟩
def gY(l:List ag):List ag:=l.mergeSort λx y=>decide (x<=y)
def aKX(l:List ag):(gY l).length=l.length:=List.length_mergeSort l
def abL{B:Nat}{p:Option Addr}{c:Nat}{l:List ag}(h:aV w B b6 1 (.slice p l.length c) l.length (bI l))(hl:l.length<=1000000):
  aH3 OF #[.slice p l.length c] w λe w'=>e=.returned (.tuple #[])/\aV w' B b6 1 (.slice p l.length c) l.length (bI (gY l))/\Mod (λk=>(Value.slice p l.length c).ownBlock=some k) w w':=by
 by_cases h0:l.length=0
 .obtain rfl:=mH h0
  refine(Tryz.slices_Sort_string_none p c w).mono ?_;rintro _ _ ⟨rfl,rfl⟩;exact⟨rfl,by simpa[gY]using h,Mod.refl _ _⟩
 .obtain⟨g,cap,cur,hv,hb,⟨fz,hr,hf⟩,hc,hsz,ht⟩:=h.row (by omega)
  injection hv with e1 e2 e3;subst e1 e3;have hcap:c<=maxLen:=by
   rcases h.2 with⟨e,_⟩|⟨g',cap',cur',e,_,_,_,hm,_⟩
   .cases e
   .injection e with e1 e2 e3;omega
  rw[eX]at ht hsz;have hH:Sort.Holds Go.Proofs.encStr w g 0 l.toArray:=by
   intro j hj;have hj':j<l.length:=by simpa using hj
   have h1:cur.toList[j]?=(bI l)[j]?:=by rw[<-ht,Xu hj']
   refine⟨?_,?_⟩
   .have:=(show Row w g b6 cur from⟨fz,hr,hf⟩).cell j
    rw[cE,this,<-JI,h1];simp[bI,hj',Go.Proofs.encStr]
   .rw[cE]
    exact(show Row w g b6 cur from⟨fz,hr,hf⟩).frozen (by omega)
  have:=Tryz.slices_Sort_string g 0 c l w hH (oP.1 hr).1 (by omega);refine this.mono ?_;rintro _ w' ⟨rfl,n,os,rfl⟩;have hg:=Go.grownBy_sorted (w:=w) (g:=g) (n:=n) (os:=os) (gY l).toArray;refine⟨rfl,⟨by simp[KT,aKX],.inr ⟨g,c,_,rfl,hb,⟨fz,Go.heap_sorted _ hr,?_⟩,hc,hcap,by simp[Sort.putCells,hsz],?_⟩⟩,(Mod.refl _ _).grown hg λk hk=>.inl hk⟩
  .simpa[HY,Sort.putCells]using hf
  .have h2:=Go.take_putCells cur (gY l) (by rw[aKX];omega)
   rw[aKX]at h2;rw[eX];exact h2
def asQ{gm:Nat}{l:List ag}(hm:dU w gm (mU l)):aH3 Oq #[.map (some gm)] w λe w'=>∃c0,e=.returned (.func (.func aLh) #[] ⟨[.pointer (some ⟨c0,0,none⟩)]⟩)/\Row w' c0 P5 ⟨[.map (some gm)]⟩/\Still w w':=by refine ajs _ _ _ ?_;exact aP λw1 r1 s1 z1=>⟨_,rfl,r1,s1⟩
def apY{f:FuncId}{cap:List Value}{l:List ag}{D:Nat->Prop}(hf:dP aM f=true)(hs:T9 f cap w l D)(hD:∀i,D i->i<w.heap.size)(hl:l.length<=1000000):
  aH3 O0 #[.func (.func f) #[] ⟨cap⟩] w λe w'=>∃l' p c,l'.Perm l/\e=.returned (.slice p l'.length c)/\aV w' w.heap.size b6 1 (.slice p l'.length c) l'.length (bI (gY l'))/\Still w w':=by
 refine akb _ _ _ ?_;refine(show aH3 JD #[.func (.func f) #[] ⟨cap⟩] w (λe w'=>∃l' p c,l'.Perm l/\e=.returned (.slice p l'.length c)/\aV w' w.heap.size b6 1 (.slice p l'.length c) l'.length (bI l')/\Still w w')from ?_).mono ?_
 .refine aj2 _ _ _ ?_
  refine(aoc hf hs hD hl).mono ?_;rintro _ w1 ⟨l',p,c,hp,rfl,ho,hst⟩;exact .inl ⟨_,_,_,rfl,l',p,c,hp,rfl,ho,hst⟩
 .rintro _ w1 ⟨l',p,c,hp,rfl,ho,hst⟩
  refine .inl ⟨_,_,_,rfl,(abL ho (by rw[hp.length_eq];exact hl)).mono ?_⟩;rintro _ w2 ⟨rfl,iX,m2⟩;exact .inl ⟨rfl,l',p,c,hp,rfl,iX,hst.own ho (aW _) m2⟩
abbrev IW:TypeId:=321
def aI6(l:List (ag×Bool×ag)):List Value:=l.flatMap lu
def aJD(x:ag×Bool×ag):(lu x).length=3:=rfl
def adS(x:ag×Bool×ag):∀u∈lu x,u.oneCell'=true:=by intro u hu;simp[lu]at hu;rcases hu with rfl|rfl|rfl<;>rfl
def nU(w:World)(g n c:Nat):Prop:=∃l:List (ag×Bool×ag),l.length=n/\aV w 0 IW 3 (.slice (some ⟨g,0,none⟩) n c) n (aI6 l)
def nU.cell{g n c:Nat}(h:nU w g n c){j:Nat}(hj:j<n):∃x:ag×Bool×ag,w.cell? ⟨g,j*3,none⟩=some (.string (S x.1))/\w.cell? ⟨g,j*3+1,none⟩=some (.bool x.2.1)/\w.cell? ⟨g,j*3+2,none⟩=some (.string (S x.2.2)):=by
 obtain⟨l,rfl,ho⟩:=h;have hx:l[j]?=some l[j]:=gJ hj;refine⟨l[j],?_,?_,?_⟩
 .have:=DH (f:=lu) aJD hx 0 (by decide)
  exact ho.cells rfl (j*3+0) _ (by rw[aI6,this];rfl)
 .have:=DH (f:=lu) aJD hx 1 (by decide)
  exact ho.cells rfl (j*3+1) _ (by rw[aI6,this];rfl)
 .have:=DH (f:=lu) aJD hx 2 (by decide)
  exact ho.cells rfl (j*3+2) _ (by rw[aI6,this];rfl)
def nU.mod{w':World}{S:Nat->Prop}{g n c:Nat}(h:nU w g n c)(hm:Mod S w w')(hg:¬S g):nU w' g n c:=by obtain⟨l,h1,h2⟩:=h;exact⟨l,h1,h2.mod hm λk hk=>by cases hk;exact hg⟩
def acJ(cs:List Value):∀(o:Nat) (vs:List Value),o+vs.length<=cs.length->fR cs o vs=cs.take o++vs++cs.drop (o+vs.length):=by
 intro o vs
 induction vs generalizing cs o with
 |nil=>intro _;simp[fR]
 |cons v vs ih=>
  intro h;simp only[bf]at h;rw[fR,ih (cs.set o v) (o+1) (by simp;omega)];apply aJc;intro j;simp only[JK,zk,Bl,eH,aIa,Dd,bf,Df,Pv]
  grind
def auY{l:List (ag×Bool×ag)}{j:Nat}{x:ag×Bool×ag}(hj:j<l.length):aI6 (l.set j x)=(aI6 l).take (j*3)++lu x++(aI6 l).drop (j*3+3):=by
 induction l generalizing j with
 |nil=>simp at hj
 |cons a r ih=>
  cases j with
  |zero=>simp[aI6,lu]
  |succ j=>
   have h:=ih (j:=j) (by simpa using hj);have e1:(j+1)*3=3+j*3:=by omega
   simp only[aI6,X0,oS]at h⊢;rw[h,e1];have e2:∀(t:List Value) (k:Nat),(lu a++t).take (3+k)=lu a++t.take k:=λt k=>by rw[List.take_append,aJD,show 3+k-3=k by omega,vK (by rw[aJD];omega)]
   have e3:∀(t:List Value) (k:Nat),(lu a++t).drop (3+k)=t.drop k:=λt k=>by rw[List.drop_append,aJD];simp[lu]
   rw[e2,FN,e3];simp
def nU.store{g n c:Nat}(h:nU w g n c){j:Nat}(hj:j<n)(x:ag×Bool×ag){K:World->Prop}(hK:∀w',nU w' g n c->Mod (λk=>k=g) w w'->w'.heap.size=w.heap.size->K w'):cJ (Addr.mk g (j*3) none) K 0 (lu x) w:=by
 obtain⟨l,rfl,ho⟩:=h;have hpos:0<l.length:=by omega
 obtain⟨g',cap,cur,hv,hb,hr,hc,hsz,ht⟩:=ho.row hpos;injection hv with e1 e2 e3;injection e1 with e1;injection e1 with e1;subst e1 e3;have hcap:c<=maxLen:=by
  rcases ho.2 with⟨e,_⟩|⟨g2,cap',cur',e,_,_,_,hm,_⟩
  .cases e
  .injection e with e1 e2 e3;omega
 have hr':Row w g IW ⟨cur.toList⟩:=by simpa using hr
 have hlen:cur.toList.length=c*3:=by simpa using hsz
 refine aH5 (g:=g) (o:=j*3) hr' (by rw[aJD,hlen];omega) (adS x) λw' r' m' z'=>hK w' ⟨l.set j x,by simp,?_⟩ m' z';rw[acJ _ _ _ (by rw[aJD,hlen];omega),aJD]at r';refine⟨by rw[aI6,acn aJD];simp,.inr ⟨g,c,_,rfl,hb,r',hc,hcap,?_,?_⟩⟩
 .simp only[xz,aIa,eH,jx,aJD,hlen]
  omega
 .rw[auY hj,<-ht]
  have e5:l.length*3=j*3+3+(l.length*3-(j*3+3)):=by omega
  apply aJc;intro i;simp only[JK,zk,Bl,eH,aIa,aJD,hlen]
  grind
def asR{fn:FuncId}{K:FuncId->List Value->List Value->Prop}(h:K fn [] []):gN (.func (.func fn) #[] #[]) K:=h
def aoD:dP aM aKL=true:=by kernel_rfl
def aq8{g n c:Nat}(h:nU w g n c)(hn:n<=12):aH3 Ju #[.slice (some ⟨g,0,none⟩) n c,.int .i64 0,.int .i64 (n:Int),.func (.func aKL) #[] #[]] w λe w'=>e=.returned (.tuple #[])/\nU w' g n c/\Mod (λk=>k=g) w w':=by
 refine Xf _ _ _ _ _ _ _ _ ?_;have e0:i64.wrap ((0:Int)+1)=1:=by decide
 unfold Ot;rw[e0];refine⟨λi w1=>1<=i/\i<=13/\nU w1 g n c/\Mod (λk=>k=g) w w1,λi _=>(14-i).toNat,⟨by decide,by decide,h,Mod.refl _ _⟩,?_⟩;rintro i _ w1 ⟨i1,i2,h1,m1⟩;refine aB (λhi=>?_) (λ_=>⟨rfl,h1,m1⟩);have hi:i<(n:Int):=by simpa using hi
 refine⟨λj w2=>0<=j/\j<=i/\nU w2 g n c/\Mod (λk=>k=g) w w2,λj _=>j.toNat,⟨by omega,by omega,h1,m1⟩,?_⟩;rintro j _ w2 ⟨j1,j2,h2,m2⟩;have hD:=h2.mod (S:=λ_=>False) (Still.refl w2).cK (λh=>h);have mD:=m2.drew;have next:∀w3,nU w3 g n c->Mod (λk=>k=g) w w3->(1<=i64.wrap (i+1)/\i64.wrap (i+1)<=13/\nU w3 g n c/\Mod (λk=>k=g) w w3)/\(14-i64.wrap (i+1)).toNat<(14-i).toNat:=λw3 h3 m3=>by rw[wrap_i64 (by omega) (by omega)];exact⟨⟨by omega,by omega,h3,m3⟩,by omega⟩
 refine⟨λwq=>nU wq g n c/\wq=w2.drew,⟨hD,rfl⟩,aB (λhj=>?_) (λ_=>next _ hD mD)⟩;have hj:0<j:=by simpa using hj
 have ew:i64.wrap (j-1)=j-1:=wrap_i64 (by omega) (by omega);rw[ew];have ej:((j.toNat:Nat):Int)=j:=by omega
 have ej1:(((j-1).toNat:Nat):Int)=j-1:=by omega
 obtain⟨x,x1,x2,x3⟩:=hD.cell (j:=j.toNat) (by omega);obtain⟨y,y1,y2,y3⟩:=hD.cell (j:=(j-1).toNat) (by omega);refine⟨by omega,by omega,x.1,x.2.1,x.2.2,?_⟩;refine⟨?_,?_,?_,by omega,by omega,y.1,y.2.1,y.2.2,?_,?_,?_,?_⟩
 .rintro wq ⟨_,rfl⟩;rw[bR,cE];exact x1
 .rintro wq ⟨_,rfl⟩;rw[bR,cE];exact x2
 .rintro wq ⟨_,rfl⟩;rw[bR,cE];exact x3
 .rintro wq ⟨_,rfl⟩;rw[bR,cE];exact y1
 .rintro wq ⟨_,rfl⟩;rw[bR,cE];exact y2
 .rintro wq ⟨_,rfl⟩;rw[bR,cE];exact y3
 refine asR (aB (λ_=>?_) (λh=>by rw[aoD]at h;cases h));refine(asP x y).mono ?_;rintro _ w3 ⟨⟨r,rfl⟩,s3⟩;have h3:=hD.mod s3 (λh=>h);have m3:Mod (λk=>k=g) w w3:=Mod.trans mD s3 (λ_ h=>h) (λ_ _ h=>h.elim);refine .inl ⟨_,rfl,aB (λ_=>?_) (λ_=>next _ h3 m3)⟩;have h4:=h3.mod (S:=λ_=>False) (Still.refl w3).cK (λh=>h);have m4:=m3.drew;obtain⟨x,x1,x2,x3⟩:=h4.cell (j:=(j-1).toNat) (by omega);obtain⟨y,y1,y2,y3⟩:=h4.cell (j:=j.toNat) (by omega);refine⟨λwq=>nU wq g n c/\wq=w3.drew,⟨h4,rfl⟩,by omega,by omega,x.1,x.2.1,x.2.2,?_,?_,?_,by omega,by omega,y.1,y.2.1,y.2.2,?_,?_,?_,by omega,by omega,?_⟩
 .rintro wq ⟨_,rfl⟩;rw[bR,cE];exact x1
 .rintro wq ⟨_,rfl⟩;rw[bR,cE];exact x2
 .rintro wq ⟨_,rfl⟩;rw[bR,cE];exact x3
 .rintro wq ⟨_,rfl⟩;rw[bR,cE];exact y1
 .rintro wq ⟨_,rfl⟩;rw[bR,cE];exact y2
 .rintro wq ⟨_,rfl⟩;rw[bR,cE];exact y3
 simp only[Z4,bR,cE];refine nU.store h4 (j:=j.toNat) (by omega) x λw5 h5 m5 z5=>⟨by omega,by omega,?_⟩;refine nU.store h5 (j:=(j-1).toNat) (by omega) y λw6 h6 m6 z6=>?_;exact⟨⟨by omega,by omega,h6,Mod.trans (Mod.trans m4 m5 (λ_ h=>h) (λ_ _ h=>h)) m6 (λ_ h=>h) (λ_ _ h=>h)⟩,by omega⟩
def apZ{p:Option Addr}{c:Nat}:aH3 Ju #[.slice p 0 c,.int .i64 0,.int .i64 0,.func (.func aKL) #[] #[]] w λe w'=>e=.returned (.tuple #[])/\w'=w:=by
 refine Xf _ _ _ _ _ _ _ _ ?_;have e0:i64.wrap ((0:Int)+1)=1:=by decide
 unfold Ot;rw[e0];refine⟨λi w1=>i=1/\w1=w,λ_ _=>0,⟨rfl,rfl⟩,?_⟩;rintro i _ w1 ⟨rfl,rfl⟩;exact aB (λh=>by simp at h) (λ_=>⟨rfl,rfl⟩)
def aoE{B:Nat}{p:Option Addr}{c:Nat}{l:List (ag×Bool×ag)}(h:aV w B IW 3 (.slice p l.length c) l.length (aI6 l))(hn:l.length<=12):aH3 Ou #[.slice p l.length c,.func (.func aKL) #[] #[]] w λe w'=>e=.returned (.tuple #[])/\Mod (λk=>(Value.slice p l.length c).ownBlock=some k) w w':=by
 refine ajt _ _ _ _ _ _ ?_;have ew:u64.wrap (((l.length:Nat):Int))=((l.length:Nat):Int):=by
  have:∀k,k<=12->u64.wrap ((k:Nat):Int)=((k:Nat):Int):=by decide
  exact this _ hn
 unfold Xg;rw[ew];refine(auX l.length (by omega)).mono ?_;rintro _ w1 ⟨⟨lim,rfl⟩,e⟩;subst e;refine .inl ⟨_,rfl,?_⟩;refine(show aH3 Fe #[.slice p l.length c,.int .i64 0,.int .i64 ((l.length:Nat):Int),.int .i64 lim,.func (.func aKL) #[] #[]] w1 (λe w'=>e=.returned (.tuple #[])/\Mod (λk=>(Value.slice p l.length c).ownBlock=some k) w1 w')from ?_).mono ?_
 .refine ajy _ _ _ _ _ _ _ _ _ ?_
  refine⟨λa b _ _ _ w2=>a=0/\b=((l.length:Nat):Int)/\w2=w1,λ_ _ _ _ _ _=>0,⟨rfl,rfl,rfl⟩,?_⟩;rintro a b lm _ _ _ w2 ⟨rfl,rfl,rfl⟩;have e1:i64.wrap (((l.length:Nat):Int)-0)=((l.length:Nat):Int):=by rw[Int.sub_zero];exact wrap_i64 (by omega) (by omega)
  rw[e1];refine aB (λ_=>?_) (λhf=>absurd (a_ hf) (by simp;omega));rcases h.2 with⟨hv,h0⟩|⟨g,cap,cur,hv,hb,_⟩
  .injection hv with e1 e2 e3
   rw[h0];refine apZ.mono ?_;rintro _ _ ⟨rfl,rfl⟩;exact .inl ⟨rfl,rfl,Mod.refl _ _⟩
  .injection hv with e1 e2 e3
   subst e1;refine(aq8 (w:=w2) ⟨l,rfl,h.B1⟩ hn).mono ?_;rintro _ w3 ⟨rfl,_,m3⟩;exact .inl ⟨rfl,rfl,m3.weaken λk hk=>by rw[hk];rfl⟩
 .rintro _ w3 ⟨rfl,m3⟩
  exact .inl ⟨rfl,rfl,m3⟩
def asS(l:List (ag×Bool×ag))(x:ag×Bool×ag):aI6 (l++[x])=aI6 l++lu x:=by simp[aI6]
def w_(w:World)(B:Nat)(p:Option Addr)(n c:Nat):Prop:=∃l:List (ag×Bool×ag),l.length=n/\aV w B IW 3 (.slice p n c) n (aI6 l)
def w_.push{B:Nat}{p:Option Addr}{n c:Nat}(h:w_ w B p n c)(hB:B<=w.heap.size)(hn:n<=100){q:Addr}(x:ag×Bool×ag)(hq:∀j u,(lu x)[j]?=some u->w.cell? (q.add j)=some u){K:Option Addr->Nat->World->Prop}
  (hK:∀p' c' w',w_ w' B p' (n+1) c'->Mod (λk=>(Value.slice p n c).ownBlock=some k) w w'->(∀k,(Value.slice p' (n+1) c').ownBlock=some k->B<=k)->K p' c' w'):dA w IW 3 40 p n c (some q) 1 K:=by
 obtain⟨l,rfl,ho⟩:=h;refine qq ho hB (lu x) rfl (adS x) (λ_=>⟨q,rfl,hq⟩) (by omega) (by omega) λp' c' w' o' m' bk=>hK p' c' w' ⟨l++[x],by simp,by rw[asS];exact o'⟩ m' λk hk=>(o'.lt k hk).1
def w_.mod{w':World}{S:Nat->Prop}{B:Nat}{p:Option Addr}{n c:Nat}(h:w_ w B p n c)(hm:Mod S w w')(hS:∀k,B<=k->k<w.heap.size->¬S k):w_ w' B p n c:=by obtain⟨l,h1,h2⟩:=h;exact⟨l,h1,h2.mod hm λk hk=>hS k (h2.lt k hk).1 (h2.lt k hk).2⟩
def w_.low{B:Nat}{p:Option Addr}{n c:Nat}(h:w_ w B p n c){k:Nat}(hk:(Value.slice p n c).ownBlock=some k):B<=k/\k<w.heap.size:=by obtain⟨l,h1,h2⟩:=h;exact h2.lt k hk
def aoh:dP aM aLh=true:=by kernel_rfl
def acK(he:Env w0)(h0:Still w0 w){a g n:Nat}{t:Tb}{T:Tree}(h:cQ w w0.heap.size a g (some t) n T)(hn:n<=12):
  aH3 FD #[.pointer (some ⟨a,0,none⟩)] w (λe w'=>(∃p1 n1 c1 p2 n2 c2,e=.returned (.tuple #[.slice p1 n1 c1,.slice p2 n2 c2]))/\cQ w' w0.heap.size a g none 0 T/\Mod (λk=>k=a) w w'):=by
 refine alJ _ _ _ ?_;refine⟨_,h.top.aj rfl,aB (λhb=>by cases hb) (λ_=>?_)⟩;have d:=h.aJb t rfl;obtain⟨l,p1,p2,p3⟩:=d.rd;refine⟨_,h.top.aj rfl,_,rfl,d.top.aj rfl,?_⟩;obtain⟨ms,c,hg,hG⟩:=p1;have s1:Still w (w.alloc (.mapIter (some t.gr) c #[] c)):=(Mod.refl _ _).alloc _;have i1:=aJg.begin hg hG;have z1:(w.alloc (.mapIter (some t.gr) c #[] c)).heap.size=w.heap.size+1:=World.size_alloc ..;refine⟨t.gr,ms,c,rfl,hg,?_⟩;generalize w.alloc (.mapIter (some t.gr) c #[] c)=w1 at*;refine⟨λrp rn rc w2=>∃rest,aJg w2 w.heap.size t.gr (En l) rest/\rn+rest.length<=l.length/\w_ w2 (w.heap.size+1) rp rn rc/\Still w w2,λ_ _ _ w2=>aJn w2 w.heap.size,⟨En l,i1,by simp[En],⟨[],rfl,aV.nil _ _ _ _⟩,s1⟩,?_⟩;rintro rp rn rc _ w2 ⟨rest,i2,azq,t2,s2⟩;have jU:w.heap.size+1<=w2.heap.size:=by obtain⟨_,_,_,_,_,q,_⟩:=i2;exact aKg q
 rcases aco (P:=aM) i2 with⟨rfl,hr⟩|⟨kk,x,rest',w3,uQ,hmem,hr,hen,i3,m3,z3⟩
 .refine .inl ⟨w2,hr,?_⟩
  obtain⟨lt,hlt,ho⟩:=t2;subst hlt;refine(aoE ho (by simp at azq;omega)).mono ?_;rintro _ w3 ⟨rfl,m3⟩;have s3:Still w w3:=Mod.trans s2 m3 (λ_ h=>h) (λi hi hk=>by have:=(ho.lt i hk).1;omega);have h3:=h.still s3;have d3:=h3.aJb t rfl;refine .inl ⟨rfl,_,h3.top.aj rfl,_,rfl,d3.top.aj rfl,?_⟩;obtain⟨lw,q1,q2,q3⟩:=d3.wr;refine(asQ q1).mono ?_;rintro _ w4 ⟨c0,rfl,rc0,s4⟩;refine .inl ⟨_,rfl,rfl,?_⟩;have q4:=q1.still s4;refine(apY aoh (aqO (by omega) q4 rc0) (λi hi=>?_) (by omega)).mono ?_
  .rcases hi with rfl|rfl
   .exact q4.lt
   .exact rc0.lt
  rintro _ w5 ⟨l',sp,sc,hp,rfl,qO,s5⟩;have od:=(s3.trans s4).trans s5;refine .inl ⟨_,_,_,rfl,?_⟩;refine⟨λwp wn wc x w6=>0<=x/\x<=(l'.length:Nat)/\x=(wn:Int)/\w_ w6 w5.heap.size wp wn wc/\Still w5 w6,λ_ _ _ x _=>(l'.length-x).toNat,⟨by decide,by omega,rfl,⟨[],rfl,aV.nil _ _ _ _⟩,Still.refl _⟩,?_⟩;rintro wp wn wc x _ w6 ⟨x1,x2,x3,t6,s6⟩;have oe:=od.trans s6;have h6:=h.still oe;have hlen:l'.length<=12:=by have:=hp.length_eq;omega
  refine aB (λhx=>?_) (λ_=>?_)
  .have hx:x<(l'.length:Nat):=by simpa using hx
   have hj:x.toNat<(gY l').length:=by rw[aKX];omega
   have cell:w6.cell? ((Addr.mk 0 0 none).add 0)=w6.cell? ((Addr.mk 0 0 none).add 0):=rfl;have yS:=qO.still s6;obtain⟨gs,cap,cur,hv,_⟩:=yS.row (by omega);injection hv with e1 e2 e3;subst e1;have hy:(bI (gY l'))[x.toNat]?=some (.string (S (gY l')[x.toNat])):=by simp[bI,hj]
   have hcell:w6.cell? ((Addr.mk gs 0 none).add (x.toNat*1))=some (.string (S (gY l')[x.toNat])):=by rw[bR,cE,eX];exact yS.cells rfl x.toNat _ hy
   have hmem:(gY l')[x.toNat]∈lw:=by have:(gY l')[x.toNat]∈gY l':=ou hj;have:(gY l')[x.toNat]∈l':=(Fs l' _).mem_iff.1 this;exact hp.mem_iff.1 this
   have hlp:=q2 _ hmem;refine⟨x1,hx,_,hcell,_,rfl,h6.top.aj rfl,(Sz h6.now h6.aIh.1 hlp).mono ?_⟩;rintro _ w7 ⟨rfl,s7⟩;refine .inl ⟨_,_,_,rfl,(ZV (he.still (h0.trans (oe.trans s7))) (TL h6.aIh.1 _) (Te h6.aIh _)).mono ?_⟩;rintro _ w8 ⟨⟨s,rfl⟩,s8⟩;refine .inl ⟨_,rfl,?_⟩;refine aP λw9 r9 s9 z9=>?_;have IX:=(s7.trans s8).trans s9;have hz:=s6.size;have CC:=IX.size;refine(t6.mod IX λ_ _ _ h=>h).push (by omega) (by omega) ((gY l')[x.toNat],false,s) (λj u hu=>?_) λp' c' aO t10 m10 lo=>?_
   .rw[bR,cE]
    exact r9.aj hu
   .rw[wrap_i64 (by omega) (by omega)]
    exact⟨⟨by omega,by omega,by omega,t10,Mod.trans (s6.trans IX) m10 (λ_ h=>h) (λi hi hk=>by have:=(t6.low hk).1;omega)⟩,by dsimp only;omega⟩
  .refine aH5 (g:=a) (o:=1) h6.top (by simp) (by simp[Value.oneCell']) λw7 r7 m7 z7=>?_
   exact⟨⟨_,_,_,_,_,_,rfl⟩,⟨r7,h6.now.mod m7 (λe=>h6.now.cY h6.top e),h6.aIh,h6.low,λt ht=>(by cases ht)⟩,Mod.trans oe m7 (λ_ h=>h.elim) (λ_ _ h=>h)⟩
 .obtain⟨xx,hx,e⟩:=eo.1 hmem
  obtain⟨rfl,rfl⟩:=aKK e;refine .inr ⟨_,_,w3,hr,xx.1.1,xx.1.2,xx.2,hen,?_⟩;have h3:Still w w3:=Mod.trans s2 m3 (λ_ h=>h) (λi hi e=>by omega);have t3:=t2.mod m3 λk h1 _ e=>by omega
  refine aP λw4 r4 s4 z4=>aH5 (g:=w3.heap.size) (o:=0) r4 (by simp) (by simp[Value.oneCell']) λw5 r5 m5 z5=>?_;refine⟨_,r5.aj rfl,_,r5.aj rfl,?_⟩;have IY:Still w3 w5:=s4.box (aW _) m5;refine aP λw6 r6 s6 z6=>?_;have yT:=IY.trans s6;have IZ:=yT.size;refine(t3.mod yT λ_ _ _ h=>h).push (by omega) (by have:=uQ.length_eq;simp at this;omega) (xx.1.1,xx.1.2,xx.2) (λj u hu=>?_) λp' c' w7 t7 m7 lo=>?_
  .rw[bR,cE]
   exact r6.aj hu
  .have i7:=(i3.mod yT (λh=>h) (λh=>h)).mod m7 (λe=>by have:=(t3.low e).1;omega) (λe=>by
    have:=(t3.low e).1;have:=aKg hg;omega)
   have hpl:=uQ.length_eq;simp only[bf]at hpl;refine⟨⟨rest',i7,by omega,t7,Mod.trans (h3.trans yT) m7 (λ_ h=>h) (λi hi hk=>by have:=(t3.low hk).1;omega)⟩,?_⟩;show aJn w7 w.heap.size<aJn w2 w.heap.size
   rw[KU i7,KU i2,hpl];exact nr _
end Go.Proofs.YtihaaoehhgmphaaGreatDoor
namespace Go.Proofs.YtihaaoehhgmphaaGreatDoor.L
open IntKind Go.RowKit Vc
variable{w:World}
def Er(r:Int):Bool:=decide ((97<=r/\r<=122)\/(65<=r/\r<=90)\/r=95)
def Ch(r:Int):Bool:=decide (48<=r/\r<=57)
def D9(a c:UInt8):decide (a<=c)=decide ((a.toNat:Int)<=(c.toNat:Int)):=by apply qW.2;rw[UInt8.le_iff_toNat_le];omega
def abM(c:UInt8):isLet c=Er (c.toNat:Int):=by unfold isLet Er;rw[D9,D9,D9,D9,show(c==95)=decide ((c.toNat:Int)=95) by rw[r_];simp[<-FF];omega];rw[r_];simp;omega
def abN(c:UInt8):gP c=Ch (c.toNat:Int):=by unfold gP Ch;rw[D9,D9,r_];simp
def nt{p:Prop}[Decidable p](h:(!decide p)=true):¬p:=by simpa using h
def nf{p:Prop}[Decidable p](h:(!decide p)=false):p:=by simpa using h
def anw(r:Int):aH3 KA #[.int .i32 r] w (λe w'=>e=.returned (.bool (Er r))/\w'=w):=by
 refine Yy _ _ _ ?_;unfold Er
 repeat' refine aB (λh=>?_) (λh=>?_)
 all_goals simp only[kQ,aLf]at*
 all_goals refine⟨gK (λb=>Ending.returned (.bool b)) ?_,(by first|trivial|rfl)⟩
 all_goals first|exact(fV (by omega)).symm|exact qW.2 (by omega)
def anR(r:Int):aH3 KG #[.int .i32 r] w (λe w'=>e=.returned (.bool (Ch r))/\w'=w):=by
 refine YK _ _ _ ?_;unfold Ch
 repeat' refine aB (λh=>?_) (λh=>?_)
 all_goals simp only[kQ,aLf]at*
 all_goals refine⟨gK (λb=>Ending.returned (.bool b)) ?_,(by first|trivial|rfl)⟩
 all_goals first|exact(aIl (by omega)).symm|exact qW.2 (by omega)
def Y5{p:UInt8->Bool}:∀{l:ag} {k:Nat} (hk:k<l.length),k<=(l.takeWhile p).length->(p l[k]=true->k+1<=(l.takeWhile p).length)/\(p l[k]=false->(l.takeWhile p).length=k)
 |a::l,0,_,_=>by
  refine⟨λh=>?_,λh=>?_⟩
  .have h:p a=true:=h
   rw[aLj,aR h];simp
  .have h:p a=false:=h
   rw[aLj,aL (by rw[h];decide)];rfl
 |a::l,k+1,hk,h=>by
  rw[aLj]at h⊢
  by_cases ha:p a=true
  .rw[aR ha]at h⊢
   simp only[bf]at h hk⊢;have:=Y5 (p:=p) (l:=l) (k:=k) (by omega) (by omega);refine⟨λhp=>?_,λhp=>?_⟩
   .have:=this.1 hp;omega
   .have:=this.2 hp;omega
  .rw[aL ha]at h
   simp at h
def aq9{s:ag}{k:Nat}(hk:k<s.length)(h:k<=bY s):((isLet s[k]||(decide (0<k)&&gP s[k]))=true->k+1<=bY s)/\((isLet s[k]||(decide (0<k)&&gP s[k]))=false->bY s=k):=by
 cases s with
 |nil=>simp at hk
 |cons c r=>
  simp only[bY]at h⊢;cases k with
  |zero=>
   have e:(c::r)[0]=c:=rfl;rw[e];simp only[Dj,Qv,Qd,Bm];refine⟨λhc=>?_,λhc=>?_⟩
   .rw[aR hc];omega
   .rw[aL (by rw[hc];decide)]
  |succ k=>
   by_cases hc:isLet c=true
   .rw[aR hc]at h⊢
    simp only[bf]at hk;have:=Y5 (p:=T_) (l:=r) (k:=k) (by omega) (by omega);have e:(c::r)[k+1]=r[k]'(by omega):=rfl;rw[e];simp only[Nat.zero_lt_succ,decide_true,zu];refine⟨λhp=>?_,λhp=>?_⟩
    .have:=this.1 hp;omega
    .have:=this.2 hp;omega
   .rw[aL hc]at h
    omega
def awh{b:ag}{k:Nat}(hk:k<b.length)(h:b[k].toNat<128):Utf8.decode ⟨⟨b⟩⟩ k=(b[k].toNat,1):=decode_ascii ⟨⟨b⟩⟩ k hk h
def auZ{b:ag}{k:Nat}(hk:k<b.length)(h:128<=b[k].toNat):128<=(Utf8.decode ⟨⟨b⟩⟩ k).1:=by
 have e:(S b).get! (k+0)=b[k]:=by show(S b).get! k=_;have hs:k<(S b).size:=hk;simp[ByteArray.get!,gJ hk]
 simp only[Utf8.decode,e];rw[aL (by omega)];unfold Utf8.runeError
 repeat' split
 all_goals simp_all
 all_goals omega
def awi{b:ag}{k:Nat}(hk:k<b.length):Er ((Utf8.decode ⟨⟨b⟩⟩ k).1:Int)=isLet b[k]/\Ch ((Utf8.decode ⟨⟨b⟩⟩ k).1:Int)=gP b[k]/\((isLet b[k]||gP b[k])=true->(Utf8.decode ⟨⟨b⟩⟩ k).2=1):=by
 rcases aJd b[k].toNat 128 with hlt|hge
 .rw[awh hk hlt,abM,abN]
  exact⟨rfl,rfl,λ_=>rfl⟩
 .have hh:=auZ hk hge
  rw[abM,abN];unfold Er Ch;refine⟨?_,?_,λh=>?_⟩
  .rw[aIl (by omega),aIl (by omega)]
  .rw[aIl (by omega),aIl (by omega)]
  .exfalso
   simp at h;omega
def acL(w:World)(o:Obj):(w.alloc o).heap[w.heap.size]?=some o:=heap_alloc_new w _
def aaF{w1:World}{g:Nat}(h:Still w w1)(hg:w.heap.size<=g)(s:ByteArray)(n:Nat):Still w (w1.iterAt g s n):=
 ⟨h.os,h.tape,h.output,by rw[Lib.iterAt_size];exact h.size,λk hk hn=>(Lib.iterAt_other _ _ _ _ _ (by omega)).trans (h.block k hk hn)⟩
def RZ(s:ag)(hl:s.length<1000000):aH3 Br #[.string (S s)] w (λe w'=>e=.returned (.string (S (s.take (bY s))))/\Still w w'):=by
 refine YW _ _ _ ?_;refine l9 ?_;refine⟨λw1=>∃k:Nat,w1.heap[w.heap.size]?=some (.stringIter ⟨⟨s⟩⟩ k)/\k<=bY s/\Still w w1,λw1=>match w1.heap[w.heap.size]? with
  |some (.stringIter _ k)=>s.length-k
  |_=>0,⟨0,acL _ _,dx _,(Mod.refl _ _).alloc _⟩,?_⟩
 rintro _ w2 ⟨k,hk,hkn,hs2⟩;have hnl:=aKh s;refine⟨rfl,s,k,hk,aB (λhx=>?_) (λhx=>?_)⟩;rotate_left
 .have hx:=a_ hx
  rw[vK (by omega)];exact⟨rfl,hs2⟩
 have hx:=aT hx;obtain⟨r1,r2,r3⟩:=awi hx;obtain⟨n1,n2⟩:=aq9 hx hkn;refine l9 ?_;have hs3:Still w (w2.iterAt w.heap.size ⟨⟨s⟩⟩ (k+(Utf8.decode ⟨⟨s⟩⟩ k).2)):=aaF hs2 (aW _) _ _;have qb:(w2.iterAt w.heap.size ⟨⟨s⟩⟩ (k+(Utf8.decode ⟨⟨s⟩⟩ k).2)).heap[w.heap.size]?=some (.stringIter ⟨⟨s⟩⟩ (k+(Utf8.decode ⟨⟨s⟩⟩ k).2)):=Lib.iterAt_heap _ _ _ _ _ hk;have on:(isLet s[k]||(decide (0<k)&&gP s[k]))=true->∀w4,w4=w2.iterAt w.heap.size ⟨⟨s⟩⟩ (k+(Utf8.decode ⟨⟨s⟩⟩ k).2)->(∃k:Nat,w4.heap[w.heap.size]?=some (.stringIter ⟨⟨s⟩⟩ k)/\k<=bY s/\Still w w4)/\(match w4.heap[w.heap.size]? with
  |some (.stringIter _ k)=>s.length-k
  |_=>0)<(match w2.heap[w.heap.size]? with
  |some (.stringIter _ k)=>s.length-k
  |_=>0):=by
  rintro ho _ rfl;have h1:=r3 (by
   rw[P7]at ho⊢;rcases ho with ho|ho
   .exact .inl ho
   .rw[eC]at ho
    exact .inr ho.2)
  rw[h1]at qb hs3⊢;refine⟨⟨k+1,qb,n1 ho,hs3⟩,?_⟩;rw[qb,hk];show s.length-(k+1)<s.length-k
  omega
 have off:(isLet s[k]||(decide (0<k)&&gP s[k]))=false->∀w4,w4=w2.iterAt w.heap.size ⟨⟨s⟩⟩ (k+(Utf8.decode ⟨⟨s⟩⟩ k).2)->(Ending.returned (.string (S (s.take (Int.toNat (k:Int)))))=.returned (.string (S (s.take (bY s))))/\Still w w4):=by rintro ho _ rfl;rw[n2 ho,bT];exact⟨rfl,hs3⟩
 refine(anw _).mono ?_;rintro _ w4 ⟨rfl,rfl⟩;rw[r1];refine .inl ⟨_,rfl,aB (λh=>?_) (λh=>?_)⟩
 .have h:isLet s[k]=false:=by simpa using h
  refine aB (λh0=>?_) (λh0=>?_)
  .have h0:(k:Int)=0:=aT h0
   refine⟨by omega,by omega,off ?_ _ rfl⟩;rw[h,aIl (by omega)];rfl
  .have h0:(k:Int)≠0:=a_ h0
   refine(anR _).mono ?_;rintro _ w5 ⟨rfl,rfl⟩;rw[r2];refine .inl ⟨_,rfl,aB (λh5=>?_) (λh5=>?_)⟩
   .have h5:gP s[k]=false:=by simpa using h5
    refine⟨by omega,by omega,off ?_ _ rfl⟩;rw[h,h5,Kj];rfl
   .have h5:gP s[k]=true:=by simpa using h5
    exact on (by rw[h,h5,fV (by omega)];rfl) _ rfl
 .have h:isLet s[k]=true:=by simpa using h
  exact on (by rw[h];rfl) _ rfl
def take_nil{s:ag}{n:Nat}(h:n<=s.length):s.take n=[]↔n=0:=by refine⟨λe=>?_,λe=>by rw[e];rfl⟩;have:=gK List.length e;rw[eH,cm]at this;omega
def au0{s:ag}{n:Nat}(h:n<=s.length):s.take n=s↔n=s.length:=by refine⟨λe=>?_,λe=>by rw[e,oT]⟩;have:=gK List.length e;rw[eH]at this;omega
def aL0(s:ag)(hl:s.length<1000000):aH3 FU #[.string (S s)] w (λe w'=>e=.returned (.bool (decide (s≠[]/\bY s=s.length)))/\Still w w'):=by
 refine Yz _ _ _ ?_;refine aB (λh=>?_) (λh=>?_)
 .have h:s≠[]:=by simpa using h
  refine(RZ s hl).mono ?_;rintro _ w1 ⟨rfl,hs1⟩;refine .inl ⟨_,rfl,?_,hs1⟩;congr 2;apply qW.2;rw[au0 (aKh s)];exact⟨λe=>⟨h,e⟩,λe=>e.2⟩
 .have h:s=[]:=by simpa using h
  subst h;exact⟨rfl,Still.refl _⟩
def Ld:∀(l:ag) (c:UInt8),decide ((0:Int)<=Go.Lib.indexByte l c)=l.contains c
 |[],c=>rfl
 |b::r,c=>by
  have ih:=Ld r c;simp only[Go.Lib.indexByte,Du,C8]
  by_cases h:b=c
  .subst h
   simp
  .have h2:¬c=b:=λe=>h e.symm
   rw[aL h];have h3:(c==b)=false:=by simpa using h2
   rw[h3,vT,<-ih];split
   .rename_i he
    rw[he]
   .rename_i he
    have h4:∀(l:ag) (c:UInt8),-1<=Go.Lib.indexByte l c:=by
     intro l c
     induction l with
     |nil=>exact Int.le_refl (-1)
     |cons x l ih=>
      simp only[Go.Lib.indexByte];split
      .decide
      .split<;>omega
    have:=h4 r c;rw[fV (by omega),fV (by omega)]
def Q7(b:UInt8):(((b.toNat:Nat):Int)).toNat.toUInt8=b:=by rw[bT];simp
def index_spec(l:ag)(c:UInt8):aH3 xy #[.string (S l),.int .u8 (c.toNat:Int)] w (λe w'=>(∃n:Int,e=.returned (.int .i64 n)/\decide (0<=n)=l.contains c)/\w'=w):=by refine(Tryz.strings_IndexByte (S l) _ _).mono ?_;rintro _ w1 ⟨rfl,rfl⟩;rw[Q7];exact⟨⟨_,rfl,Ld l c⟩,rfl⟩
def KK(t s:ag):pf t s=t.isPrefixOf s:=by unfold pf;rw[r_,kQ,OD];refine⟨λh=>?_,λh=>⟨h.length_le,(List.prefix_iff_eq_take.1 h).symm⟩⟩;rw[<-h.2];exact List.take_prefix _ _
def Y6(s t:ag):aH3 Db #[.string (S s),.string (S t)] w (λe w'=>e=.returned (.bool (pf t s))/\w'=w):=by refine(Tryz.strings_HasPrefix (S s) (S t) _).mono ?_;rintro _ w1 ⟨rfl,rfl⟩;rw[KK];exact⟨rfl,rfl⟩
end Go.Proofs.YtihaaoehhgmphaaGreatDoor.L
