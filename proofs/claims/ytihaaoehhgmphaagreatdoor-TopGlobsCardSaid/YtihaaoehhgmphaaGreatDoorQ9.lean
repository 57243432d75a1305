/- Texts of one proof, one behind the other. Conditions: as each theorem names them. -/
import Derived.Test.YtihaaoehhgmphaaGreatDoorQ8
import Derived.KernelRfl
import Derived.OpenShut
set_option linter.all false
namespace Go.Proofs.YtihaaoehhgmphaaGreatDoor
open IntKind Go.RowKit Vc
set_option maxRecDepth 100000
variable{w w0:World}
def AK(l:List (Bool×ag))(rs:List (ag×ag)):L.Nd:=⟨0,false,[],H9 l,[],rs.map λr=>(r.1,[⟨0,false,r.2,[],[],[]⟩]),[],[]⟩
def ag4(s:Sh)(st:Int)(out:ag)(T':Tree):Sh:={s with fuel:=s.fuel-1,last:=-1,T:=T',b6:=s.b6-1,st:=st,out:=s.out++out}
structure WY(s:Sh)(k:Nat):Prop where
 way:s.way=0
 fuel:0<s.fuel
 vars:s.V=[]
 err:s.err=[]
 b6:k<s.b6
 bh:s.bh.length<=50000
 mU:gu s.T
 out:s.out.length<=900000000
def aK1{l:List (Bool×ag)}{f0:ag}{fr:List ag}{s:Sh}{st:Int}{out:ag}{T':Tree}(h:WY s 0)(hl:l.all Az=true)(aH5:l.map Prod.snd=f0::fr)(hsz:dF (f0::fr)<=900)(hn:f0∉aKq)(ht:aIN s.T (f0::fr) s.bh st out [] T')(hT:gu T')(ho:out.length<=50000000):mY (AK l []) s (ag4 s st out T'):=by have:=TI (n:=AK l []) (s:=s) (s2:={s with fuel:=s.fuel-1,last:=-1}) (x1:=⟨s.bh,[],false,false⟩) (nm:=[]) rfl h.way h.fuel rfl rfl hl aH5 h.vars hsz (by show 0<=10000;decide) (by rw[h.err];decide) hn ⟨rfl,rfl⟩ ht hT h.b6 h.bh h.vars (by have:=h.out;show s.out.length+out.length<=_;omega) (by show s.err.length<=_;rw[h.err];decide) (λh=>by cases h);simpa[Ax,ag4]using this
def H_(s:Sh)(st:Int)(T':Tree):Sh:={s with fuel:=s.fuel-1,last:=-1,T:=T',b6:=s.b6-3,st:=st}
def aw_{l:List (Bool×ag)}{f0:ag}{fr:List ag}{s:Sh}{st:Int}{out:ag}{T':Tree}{dst nm:ag}(h:WY s 3)(hl:l.all Az=true)(aH5:l.map Prod.snd=f0::fr)(hsz:dF (f0::fr)<=900)(hn:f0∉aKq)(o:ny dst nm)(hnm:nm≠[46])(hi:Lib.lastIndexByte (S (47::nm)) 47=0)
  (ht:aIN (ij s.T nm [] false) (f0::fr) s.bh st out [] T')(hT:gu T')(ho:out.length<=50000)(hx:aKo T' nm out)(Va:s.T.length<50):mY (AK l [([62],dst)]) s (H_ s st (ij T' nm out true)):=by
 have hd:=o.len;have hb:=h.b6;have hR:aJd (AK l [([62],dst)]).rs {s with fuel:=s.fuel-1,last:=-1} ⟨s.bh,[],false,false⟩ {s with fuel:=s.fuel-1,last:=-1,T:=ij s.T nm [] false,b6:=s.b6-1} ⟨s.bh,dst,false,true⟩:=by
  refine⟨[⟨0,dst⟩],nm,?_,?_,(by show 0<s.b6;omega),.inr ⟨rfl,hnm,hi,Va,rfl,?_⟩⟩
  .show AJ s.V _ (.ok (_,s.V))
   rw[h.vars];exact S7 (q:=false) (by show dst.length<=1000;omega)
  .rw[show F.joined false [⟨0,dst⟩]=dst from R9 false dst]
   exact o
  .show(⟨s.bh,dst,false,true⟩:sB)=⟨s.bh,F.joined false [⟨0,dst⟩],false,true⟩
   rw[show F.joined false [⟨0,dst⟩]=dst from R9 false dst]
 have:=TI (n:=AK l [([62],dst)]) (s:=s) (s2:={s with fuel:=s.fuel-1,last:=-1,T:=ij s.T nm [] false,b6:=s.b6-1}) (x1:=⟨s.bh,dst,false,true⟩) (nm:=nm) rfl h.way h.fuel rfl rfl hl aH5 h.vars hsz (by show 1<=10000;decide) (by rw[h.err];decide) hn hR ht hT (by show 0<s.b6-1;omega) h.bh h.vars (by have:=h.out;show s.out.length+out.length<=_;omega) (by show s.err.length<=_;rw[h.err];decide) (λ_=>⟨by show 1<s.b6-1;omega,o,hnm,hi,hx⟩);have e:s.b6-1-1-1=s.b6-3:=by omega
 simpa[Ax,H_,e]using this
def ae4:ag:=[101,99,104,111,32,39,97,32,98,39,32,124,32,115,111,114,116,32,62,32,102,59,32,99,97,116,32,102]
def ae5:L.Nd:=⟨3,false,[],[],[],[],[],[⟨1,false,[],[],[],[],[],[AK [(false,[101,99,104,111]),(true,[97,32,98])] [],AK [(false,[115,111,114,116])] [([62],[102])]]⟩,AK [(false,[99,97,116]),(false,[102])] []]⟩
def aLm:L.pK ae4=(ae5,0):=by kernel_rfl
def avD{a b:L.Nd}{s t1 t2:Sh}(hw:s.way=0)(hf:0<s.fuel)(he:s.tw≠220)(h1:mY a {s with fuel:=s.fuel-1,out:=[],way:=0,loops:=0} t1)(e1:t1.tw≠220)
  (h2:mY b {Aj {s with fuel:=s.fuel-1} t1 with st:=t1.st,bh:=t1.out,out:=[],way:=0,loops:=0} t2)(e2:t2.tw≠220)(ho:s.out.length+t2.out.length<=1000000000):
  mY ⟨1,false,[],[],[],[],[],[a,b]⟩ s {Aj {Aj {s with fuel:=s.fuel-1} t1 with st:=t1.st} t2 with st:=t2.st,out:=s.out++t2.out}:=by
 refine Eh (.inr (.inr (.inl rfl))) hw hf ?_;exact atb (n:=⟨1,false,[],[],[],[],[],[a,b]⟩) (s:={s with fuel:=s.fuel-1}) (o:=t2.out) (s':={Aj {Aj {s with fuel:=s.fuel-1} t1 with st:=t1.st} t2 with st:=t2.st}) (by show 2≠1;decide) rfl ⟨hw,he,t1,h1,e1,hw,e1,t2,h2,e2,rfl,rfl⟩ (by show 2<=100000;decide) ho
def avE{a b:L.Nd}{s s1 s2:Sh}(hw:s.way=0)(hf:0<s.fuel)(h1:mY a {s with fuel:=s.fuel-1} s1)(h2:mY b s1 s2):mY ⟨3,false,[],[],[],[],[],[a,b]⟩ s s2:=by refine Eh (.inl rfl) hw hf ?_;exact TF (n:=⟨3,false,[],[],[],[],[],[a,b]⟩) (s:={s with fuel:=s.fuel-1}) ⟨s1,h1,s2,h2,rfl⟩ (by show 2<=100000;decide)
def afR:ny [102] [102]:=⟨by kernel_rfl,by decide,by decide,by decide,by kernel_rfl,by decide⟩
def avF:UD [] [97,32,98,10]=[97,32,98,10]:=by
 have h:iO [97,32,98,10]=[[97,32,98]]:=by kernel_rfl
 unfold UD;rw[aN rfl,h,aHG,List.mergeSort_singleton];rfl
def avG:∃s',mY ae5 (uF [] [] 20) s'/\s'.st=0/\s'.out=[97,32,98,10]/\s'.err=[]:=by
 have nil:gu []:=gu.nil;have ft:gu (ij [] [102] [] false):=nil.put _ _ (by decide);have ft2:gu (ij (ij [] [102] [] false) [102] [97,32,98,10] true):=ft.put _ _ (by decide);have tE:aIN [] [[101,99,104,111],[97,32,98]] [] 0 [97,32,98,10] [] []:=Lm (fn:=aJ6) (by decide) (by decide) (by decide) (Ll (args:=[[97,32,98]]) [] (by decide) (by decide)) [];have tS:aIN (ij [] [102] [] false) [[115,111,114,116]] [97,32,98,10] 0 [97,32,98,10] [] (ij [] [102] [] false):=by have:=Lm (f0:=[115,111,114,116]) (fn:=F3) (by decide) (by decide) (by decide) (atq (args:=[]) (.inl rfl) (bh:=[97,32,98,10]) (by decide)) (ij [] [102] [] false);rw[avF]at this;exact this
 have tC:aIN (ij (ij [] [102] [] false) [102] [97,32,98,10] true) [[99,97,116],[102]] [] 0 [97,32,98,10] [] (ij (ij [] [102] [] false) [102] [97,32,98,10] true):=
  ac8 (fn:=FV) (by decide) (aw9 afR (by decide) (d:=[97,32,98,10]) (by kernel_rfl) _ _ (by decide))
 refine⟨_,avE rfl (by decide) (avD rfl (by decide) (by decide) (aK1 (l:=[(false,[101,99,104,111]),(true,[97,32,98])]) ⟨rfl,by decide,rfl,rfl,by decide,by decide,nil,by decide⟩ (by kernel_rfl) rfl (by decide) (by decide) tE nil (by decide)) (by decide)
  (aw_ (l:=[(false,[115,111,114,116])]) (dst:=[102]) (nm:=[102]) ⟨rfl,by decide,rfl,rfl,by decide,by decide,nil,by decide⟩ (by kernel_rfl) rfl (by decide) (by decide) afR (by decide) (by kernel_rfl) tS ft (by decide) ⟨by decide,by decide⟩ (by decide)) (by decide) (by decide))
  (aK1 (l:=[(false,[99,97,116]),(false,[102])]) ⟨rfl,by decide,rfl,rfl,by decide,by decide,ft2,by decide⟩ (by kernel_rfl) rfl (by decide) (by decide) tC ft2 (by decide)),rfl,rfl,rfl⟩
def nU(T:Tree):List ag:=T.map λx=>x.1.drop 1
def an7{l:ag}(h:(47:UInt8)∉l):decide (0<=Lib.indexByte l 47)=false:=by refine fY λh0=>?_;obtain⟨o,ho⟩:∃o:Nat,Lib.indexByte l 47=o:=⟨(Lib.indexByte l 47).toNat,by omega⟩;exact h (uf (Lib.indexByte_some ho).1)
def ap1{g c0 c1:Nat}{T:Tree}(cB:tI T)(hm:dH w0 g (lD T))(hc:Row w0 c0 F5 ⟨[.map (some g)]⟩)(hp:Row w0 c1 bJ ⟨[.string (S [])]⟩):
  Hx FC [.pointer (some ⟨c0,0,none⟩),.pointer (some ⟨c1,0,none⟩)] w0 (λl'=>l'.Perm (nU T)) (λi=>i=g\/i=c0\/i=c1):=by
 intro k B Inv X w hH hB hI h0 hD;apply akB;have dX:=hm.still h0;refine⟨_,rfl,(hc.still h0).ai rfl,?_⟩;obtain⟨ms,c,hg,hG⟩:=dX;refine⟨g,ms,c,rfl,hg,?_⟩;have tN:g<w.heap.size:=rV hg;have VY:=hH.more X [] w (.mapIter (some g) c #[] c) hI;have VZ:=pG.begin hg hG;have hp1:Row (w.alloc (.mapIter (some g) c #[] c)) c1 bJ ⟨[.string (S [])]⟩:=(hp.still h0).alloc _;generalize hw1:w.alloc (.mapIter (some g) c #[] c)=w1 at*;have V0:X g:=hD _ (.inl rfl);have hXp:X c1:=hD _ (.inr (.inr rfl));have IL:c1≠w.heap.size:=Dx (hp.still h0).lt;refine⟨λms' w2=>ms'=[]/\∃(d:List ag) (T2:Tree) (rest:List KV),pG w2 w.heap.size g (lD T) rest/\rest.Perm (lD T2)/\Inv (λi=>X i\/i=w.heap.size) d w2/\Row w2 c1 bJ ⟨[.string (S [])]⟩/\(d++nU T2).Perm (nU T)/\∀x∈T2,x∈T,λw2=>pz w2 w.heap.size,⟨rfl,[],T,lD T,VZ,.refl _,VY,hp1,.refl _,λ_ h=>h⟩,?_⟩;rintro _ ms' w2 ⟨rfl,d,T2,rest,Ix,hr2,Iy,hp2,WZ,hsub⟩;rcases SN (P:=aL) Ix with⟨rfl,hr⟩|⟨kk,x,rest',w3,qj,hmem,hr,he,aLd,m3,z3⟩
 .refine .inl ⟨w2,hr,rfl,d,_,?_,Iy,λi hi=>.inl hi⟩
  have:T2=[]:=by have:=hr2.length_eq;simp only[cq,lD,ke]at this;exact mC this.symm
  subst this;simpa[nU]using WZ
 .have hin:(kk,x)∈lD T2:=hr2.mem_iff.1 (qj.mem_iff.2 (by simp))
  obtain⟨y,hy,e⟩:=dM.1 hin;obtain⟨rfl,rfl⟩:=aJB e;obtain⟨nm,hnm,hns⟩:=cB.2.2.1 y (hsub y hy);obtain⟨q,en⟩:=y;obtain rfl:q=47::nm:=hnm;have V2:=hH.Er _ _ _ _ Iy (m3.weaken λi e=>⟨.inr e,by rw[e];exact hB⟩);have oY:=hp2.mod m3 IL;refine .inr ⟨_,_,w3,hr,47::nm,qs en,he,?_⟩;refine⟨[],oY.ai rfl,by decide,?_⟩;obtain⟨A,C,W0⟩:=Yc hy;have hdl:d.length<1000000:=by have h1:=WZ.length_eq;have h2:=cB.2.2.2;simp only[nU,aHb,ke]at h1;omega
  refine(Tryz.strings_CutPrefix (S (47::nm)) (S [47]) w3).mono ?_;rintro _ w4 ⟨rfl,rfl⟩;refine .inl ⟨nm,true,by show Ending.returned _=_;simp[Lib.trimPrefix,Lib.hasPrefix,List.isPrefixOf],ax (λ_=>?_) (λh=>by cases h)⟩;refine(Tryz.strings_Contains_one (S nm) 47 w4).mono ?_;rintro _ w5 ⟨rfl,rfl⟩;refine .inl ⟨_,rfl,?_⟩;have hc0:decide (0<=Lib.indexByte (S nm).data.toList 47)=false:=an7 hns;rw[hc0];refine ax (λ_=>?_) (λh=>by cases h);obtain⟨fn,tmps,a,b,h1,h2⟩:=hH.step _ _ nm _ hdl V2;refine⟨fn,tmps,a,b,h1,h2.mono ?_⟩;rintro _ w6 ⟨rfl,V3,m4⟩;have Iz:=aLd.mod m4 (λh=>h (.inr rfl)) (λh=>h (.inl V0));refine⟨true,rfl,ax (λh=>by cases h) (λ_=>⟨⟨rfl,d++[nm],A++C,rest',Iz,?_,V3,oY.mod m4 (λh=>h (.inl hXp)),?_,λz hz=>hsub z ?_⟩,?_⟩)⟩
  .have h3:((Value.string (S (47::nm)),qs en)::rest').Perm ((Value.string (S (47::nm)),qs en)::lD (A++C)):=by
    refine qj.symm.trans (hr2.trans ?_);rw[W0];simp only[lD,aIW,gi];exact List.perm_middle
   exact h3.cons_inv
  .refine List.Perm.trans ?_ WZ
   rw[W0];simp only[nU,aIW,gi,j9,aJY,FQ];refine XT _ ?_;rw[qP,Dp];exact List.perm_middle.symm
  .rw[W0]
   rcases mE.1 hz with hz|hz
   .exact rO _ hz
   .exact ue _ (Fx _ hz)
  .show pz w6 w.heap.size<pz w2 w.heap.size
   rw[DC Iz,DC Ix,qj.length_eq];exact lB _
def anH:cY aL FC=true:=by kernel_rfl
def ag5(a b:ag):(decide (a<=b)||decide (b<=a))=true:=by rcases List.le_total a b with h|h<;>simp[h]
def ary{l m:List ag}(h:l.Perm m):aHG l=aHG m:=by
 refine((De l _).trans (h.trans (De m _).symm)).eq_of_pairwise (λa b _ _ h1 h2=>List.le_antisymm (aQ h1) (aQ h2)) ?_ ?_
 .exact XH (le:=λx y:ag=>decide (x<=y)) (λa b c h1 h2=>jc (List.le_trans (aQ h1) (aQ h2))) ag5 l
 .exact XH (le:=λx y:ag=>decide (x<=y)) (λa b c h1 h2=>jc (List.le_trans (aQ h1) (aQ h2))) ag5 m
def eR(T:Tree):List ag:=aHG (nU T)
def BL(T:Tree):(eR T).length=T.length:=by rw[eR,vM,nU,ke]
def aag{g:Nat}{T:Tree}(cB:tI T)(hm:dH w g (lD T)):an JW #[.map (some g),.string (S [])] w λe w'=>∃p c,e=.returned (.slice p (eR T).length c)/\aS w' w.heap.size bJ 1 (.slice p (eR T).length c) (eR T).length (strs (eR T))/\Still w w':=by
 apply ald;refine(show an Qi #[.map (some g),.string (S [])] w (λe w'=>e=.returned (.func (.func FC) #[] #[.pointer (some ⟨w.heap.size,0,none⟩),.pointer (some ⟨w.heap.size+1,0,none⟩)])/\Row w' w.heap.size F5 ⟨[.map (some g)]⟩/\Row w' (w.heap.size+1) bJ ⟨[.string (S [])]⟩/\Still w w')from ?_).mono ?_
 .apply ale
  refine aO λw1 r1 s1 z1=>aO λw2 r2 s2 z2=>?_;rw[z1]at r2;refine⟨?_,r1.still s2,r2,s1.trans s2⟩;show Ending.returned (.func _ _ #[_,.pointer (some ⟨w1.heap.size,0,none⟩)])=_
  rw[z1]
 rintro _ w1 ⟨rfl,r1,r2,s1⟩;have hz:=r2.lt;refine .inl ⟨_,rfl,rfl,(Z5 (l:=nU T) anH (ap1 cB (hm.still s1) r1 r2) (λi hi=>?_) (by rw[nU,ke];have:=cB.2.2.2;omega)).mono ?_⟩
 .rcases hi with rfl|rfl|rfl
  .exact(hm.still s1).lt
  .omega
  .omega
 rintro _ w2 ⟨l',p,c,hp,rfl,ho,s2⟩;have e:aHG l'=eR T:=ary hp;have el:l'.length=(eR T).length:=by rw[<-e,vM]
 rw[e,el]at ho;rw[el];have hb:=s1.size;refine .inl ⟨_,_,_,rfl,p,c,rfl,ho.base λk hk=>kf hb (ho.lt k hk).1,s1.trans s2⟩
def avH{l:List ag}(h:∀x∈l,x.length<=1000):total l<=1001*l.length:=by
 induction l with
 |nil=>exact aR _
 |cons a r ih=>have h1:=ih λx hx=>h x (by simp[hx]);have h2:=h a (by simp);simp only[total,gi,rP,a_]at h1⊢;omega
def G2{T:Tree}{x:ag}:x∈eR T↔x∈nU T:=(De _ _).mem_iff
def Sy{T:Tree}(cB:tI T):total (eR T)<=60000:=by
 have h:=avH (l:=eR T) λx hx=>by obtain⟨y,hy,rfl⟩:=dM.1 (G2.1 hx);have:=(cB.1 y hy).1;rw[j_];omega
 rw[BL]at h;have:=cB.2.2.2;omega
def aBg:agu [] true:=by intro w g T he hm cB;apply XY;refine aO λw1 r1 s1 z1=>⟨_,r1.ai rfl,ax (λ_=>⟨_,r1.ai rfl,(aag cB (hm.still s1)).mono ?_⟩) (λh=>by cases h)⟩;rintro _ w2 ⟨p,c,rfl,ho,s2⟩;refine .inl ⟨_,_,_,rfl,(Gf (he.still (s1.trans s2)) ⟨rfl,At.own ho⟩ (by have:=Sy cB;omega)).mono ?_⟩;rintro _ w3 ⟨rfl,s3⟩;exact .inl ⟨_,rfl,⟨_,rfl⟩,(s1.trans s2).trans s3⟩
def abc(he:Env w0)(h0:Still w0 w){a g n:Nat}{tr:Option Tb}{T:Tree}(h:cv w w0.heap.size a g tr n T):
  an JP #[.pointer (some ⟨a,0,none⟩),.string (S [])] w (λe w'=>∃p c,e=.returned (.slice p (eR T).length c)/\aS w' w.heap.size bJ 1 (.slice p (eR T).length c) (eR T).length (strs (eR T))/\cv w' w0.heap.size a g tr (n+1) T/\Mod (RF tr) w w'):=by
 apply akS;refine(abS he h0 h (by decide) aBg).mono ?_;rintro _ w1 ⟨rfl,h1,m1⟩;refine .inl ⟨rfl,_,rfl,h1.top.ai rfl,(aag h1.cB h1.now).mono ?_⟩;rintro _ w2 ⟨p,c,rfl,ho,s2⟩;exact .inl ⟨_,_,_,rfl,p,c,rfl,ho.base λk hk=>kf m1.size (ho.lt k hk).1,h1.still s2,Mod.trans m1 s2 (λ_ h=>h) (λ_ _ h=>h.elim)⟩
end Go.Proofs.YtihaaoehhgmphaaGreatDoor
namespace Go.Proofs.YtihaaoehhgmphaaGreatDoor
open IntKind Go.RowKit Vc
set_option maxRecDepth 100000
variable{w w0:World}{a g n:Nat}{tr:Option Tb}{T:Tree}
def ad7:ny [46] [46]:=⟨by kernel_rfl,by decide,by decide,by decide,by kernel_rfl,by decide⟩
def ack(bP:aHx w0)(h0:Still w0 w)(h:cv w w0.heap.size a g tr n T){pb:Nat}(hp:ga w pb a)(hnp:¬RF tr pb):
  an Ke #[.pointer (some ⟨pb,0,none⟩),.string (S [46])] w (λe w'=>∃p c,e=.returned (.tuple #[.slice p (eR T).length c,.int .i64 0])/\aS w' w.heap.size bJ 1 (.slice p (eR T).length c) (eR T).length (strs (eR T))/\cv w' w0.heap.size a g tr (n+4) T/\Mod (RF tr) w w'):=by
 have hf:gz T (jr [46])=⟨2,7,[]⟩:=rfl;have hwr:∀k,w.heap.size<=k->¬RF tr k:=λk hk hr=>RF.new h hk hr;apply al1;refine aO λw1 r1 s1 z1=>(aaS bP (h0.trans s1) (h.still s1) (hp.still s1) hnp ad7 true (by rw[hf];decide)).mono ?_;rintro _ w2 ⟨rfl,h2,m2⟩;rw[hf];refine .inl ⟨_,_,_,_,rfl,aO λw3 r3 s3 z3=>bF (g:=w2.heap.size) (o:=0) r3 λw4 r4 m4 z4=>?_⟩;have aHU:Still w2 w4:=s3.box (aR _) m4;refine⟨_,r4.ai rfl,(mO _ _ (by decide)).mono ?_⟩;rintro _ _ ⟨rfl,rfl⟩;refine .inl ⟨rfl,_,r4.ai rfl,(mO _ _ (by show(!decide (bits .and .i64 7 4=0))=true;decide)).mono ?_⟩;rintro _ w5 ⟨rfl,rfl⟩;have m15:Mod (RF tr) w1 w5:=Mod.trans m2 aHU (λ_ h=>h) (λ_ _ h=>h.elim);have CN:Mod (RF tr) w w5:=Mod.trans s1 m15 (λ_ h=>h.elim) (λ_ _ h=>h);have IM:Still w0 w5:=Mod.trans h0 CN (λ_ h=>h) λi hi e=>by have:=(h.aHO (RF.sf e)).1;omega
 have h5:=h2.still aHU;have vh:=hp.mod CN hnp;refine .inl ⟨rfl,_,vh.ai rfl,(abc bP.env IM h5).mono ?_⟩;rintro _ w6 ⟨p,c,rfl,ho,h6,m6⟩;have r6:=(r1.mod m15 (hwr _ (aR _))).mod m6 (hwr _ (aR _));have hz1:=m15.size;have gU:=m6.size;refine .inl ⟨_,_,_,rfl,bF (g:=w.heap.size) (o:=0) r6 λw7 r7 m7 z7=>LP ?_⟩;refine⟨_,r7.ai rfl,p,c,rfl,(ho.base λk hk=>?_).mod m7 λk hk e=>?_,h6.mod m7 λk hk e=>?_,Mod.trans (Mod.trans CN m6 (λ_ h=>h) (λ_ _ h=>h)) m7 (λ_ h=>h) (λi hi e=>by omega)⟩
 .have:=(ho.lt k hk).1;omega
 .have:=(ho.lt k hk).1;omega
 .have:=(h.aHO hk).2
  omega
end Go.Proofs.YtihaaoehhgmphaaGreatDoor
namespace Go.Proofs.YtihaaoehhgmphaaGreatDoor.P
open IntKind Go.RowKit Vc
set_option maxRecDepth 100000
variable{w:World}
abbrev aJu:TypeId:=380
def Ca:List Value:=.bool true::List.replicate 256 (.bool false)
def att:∀v∈Ca,v.oneCell'=true:=λv hv=>by
 rcases gE.1 hv with rfl|hv;·rfl
 .rw[XF hv]
  rfl
def ap2:an QI #[.string (S [42])] w (λe w'=>∃p c,e=.returned (.slice p 1 c)/\aS w' w.heap.size aJu 257 (.slice p 1 c) 1 Ca/\Still w w'):=by
 apply alV;refine⟨λp1 o L C w1=>(p1=[42]/\o=none/\L=0/\C=0/\w1=w)\/(p1=[]/\L=1/\aS w1 w.heap.size aJu 257 (.slice o 1 C) 1 Ca/\Still w w1),λp1 _ _ _ _=>p1.length,.inl ⟨rfl,rfl,rfl,rfl,rfl⟩,?_⟩;rintro p1 o L C _ w1 (⟨rfl,rfl,rfl,rfl,rfl⟩|⟨rfl,rfl,ho,hs⟩)
 .refine ax (λ_=>?_) (λh=>by simp at h)
  refine⟨by decide,42,rfl,ax (λ_=>?_) (λh=>by simp at h)⟩;have r1:=(Row.new w1 aJu ⟨List.replicate 257 (.bool false)⟩).drew;have s1:Still w1 (w1.alloc (.cells ⟨List.replicate 257 (.bool false)⟩ aJu)).drew:=((Mod.refl _ _).alloc _).drew;refine⟨λ_=>True,trivial,by decide,by decide,r1.wr 0 (by simp),Ca,rfl,?_,?_⟩
  all_goals
   have r2:Row ((w1.alloc (.cells ⟨List.replicate 257 (.bool false)⟩ aJu)).drew.setCell (Addr.mk w1.heap.size 0 none) (.bool true)) w1.heap.size aJu ⟨Ca⟩:=r1.aHE 0 (.bool true);have s2:Still w1 ((w1.alloc (.cells ⟨List.replicate 257 (.bool false)⟩ aJu)).drew.setCell (Addr.mk w1.heap.size 0 none) (.bool true)):=s1.setCell (.inr (aR _)) _;generalize(w1.alloc (.cells ⟨List.replicate 257 (.bool false)⟩ aJu)).drew.setCell (Addr.mk w1.heap.size 0 none) (.bool true)=w2 at*
  .intro j u hu
   rw[bM,cL];exact r2.dh (by simpa using hu)
  refine ax (λ_=>?_) (λh=>by cases h);have ho:aS w2 w1.heap.size aJu 257 (.slice none 0 0) 0 []:=aS.nil _ _ _ _;refine⟨[],Ca,(ho.alloc _).aJO,rfl,att,λ_=>⟨_,rfl,λj u hu=>?_⟩,by decide,by decide,λp2 cp w3 o3 g3 b3=>⟨.inr ⟨rfl,rfl,?_,s2.qd ho (aR _) g3⟩,show(0:Nat)<1 by decide⟩⟩
  .rw[bM,cL]
   exact(Row.new w2 aJu ⟨Ca⟩).dh (by simpa using hu)
  .have:=ho.qd s2.size o3 b3
   exact this
 .exact ax (λh=>by simp at h) (λ_=>⟨_,_,rfl,ho,hs⟩)
def arz(s:List UInt8)(hs:s.length<1000000):an FU #[.string (S [42]),.string (S s)] w (λe w'=>e=.returned (.bool true)/\Still w w'):=by
 apply al8;refine ap2.mono ?_;rintro _ w1 ⟨p,c,rfl,ho,s1⟩;obtain⟨g,cap,cur,hv,_⟩:=ho.row (by decide);injection hv with e1 e2 e3;subst e1;have star:∀{w2:World},Still w1 w2->w2.cell? ((Addr.mk g 0 none).add (Int.toNat (0:Int)*257))=some (.bool true):=λh2=>by rw[bM,cL];exact(ho.still h2).cells rfl 0 _ rfl
 refine .inl ⟨_,_,_,rfl,λi k st mk w2=>Still w1 w2/\((i=0/\k=0)\/(i=1/\st=0/\mk=k/\0<=k/\k<=s.length)),λi k _ _ _=>(2*(s.length-k)+(1-i)).toNat,⟨Still.refl _,.inl ⟨rfl,rfl⟩⟩,?_⟩;rintro i k st mk _ w2 ⟨h2,hc⟩;refine ax (λhk=>?_) (λhk=>?_)
 .have hk:k<s.length:=aQ hk
  rcases hc with⟨rfl,rfl⟩|⟨rfl,rfl,rfl,h0,hle⟩
  .refine⟨λb w3=>b=true/\w3=w2,ax (λ_=>⟨by decide,by decide,true,star h2,rfl,rfl⟩) (λh=>absurd h (by decide)),?_⟩
   rintro _ _ w3 ⟨rfl,rfl⟩;refine ax (λ_=>⟨⟨h2,.inr ⟨rfl,rfl,rfl,by omega,by omega⟩⟩,?_⟩) (λh=>by cases h);show(2*((s.length:Int)-0)+(1-1)).toNat<(2*((s.length:Int)-0)+(1-0)).toNat
   omega
  .refine⟨λb w3=>b=false/\w3=w2,ax (λh=>absurd h (by decide)) (λ_=>⟨rfl,rfl⟩),?_⟩
   rintro _ _ w3 ⟨rfl,rfl⟩;refine ax (λh=>by cases h) (λ_=>ax (λh=>absurd h (by decide)) (λ_=>ax (λ_=>?_) (λh=>absurd h (by decide))));rw[show i64.wrap (mk+1)=mk+1 by rw[wrap_i64 (by omega) (by omega)]];refine⟨⟨h2.drew,.inr ⟨rfl,rfl,rfl,by omega,by omega⟩⟩,?_⟩;show(2*((s.length:Int)-(mk+1))+(1-1)).toNat<(2*((s.length:Int)-mk)+(1-1)).toNat
   omega
 .have hi:i=0\/i=1:=hc.imp aKE aKE
  refine⟨λi1 w4=>w4=w2/\(i1=0\/i1=1),λi1 _=>(1-i1).toNat,⟨rfl,hi⟩,?_⟩;rintro i1 _ w4 ⟨rfl,rfl|rfl⟩
  .exact ax (λ_=>⟨by decide,by decide,true,star h2,ax (λ_=>⟨⟨rfl,.inr rfl⟩,show(0:Nat)<1 by decide⟩) (λh=>by cases h)⟩) (λh=>absurd h (by decide))
  .exact ax (λh=>absurd h (by decide)) (λ_=>⟨rfl,s1.trans h2⟩)
end Go.Proofs.YtihaaoehhgmphaaGreatDoor.P
namespace Go.Proofs.YtihaaoehhgmphaaGreatDoor
open IntKind Go.RowKit Vc
set_option maxRecDepth 100000
variable{w w0:World}
def R_{w':World}(h:Mod (RF none) w w'):Still w w':=h.weaken λk hk=>by obtain⟨t,ht,_⟩:=hk;cases ht
def ad8{k:Nat}:¬RF none k:=λhk=>by obtain⟨t,ht,_⟩:=hk;cases ht
abbrev VA:TypeId:=412
def MF(T:Tree):Prop:=gu T/\∀nm∈nU T,ny nm nm/\nm≠[46]
def arA{T:Tree}(cB:tI T)(h:MF T){nm:ag}(hm:nm∈nU T):(gz T (jr nm)).k=1:=by
 obtain⟨x,hx,e⟩:=dM.1 hm;obtain⟨nm',e2,_⟩:=cB.2.2.1 x hx;have e3:x.1=47::nm:=by rw[e2]at e⊢;rw[<-e];rfl
 have hp:jr nm=47::nm:=aH (h.2 nm hm).2;rw[hp];unfold gz;rw[aH (by simp)];rcases Gv h.1 (47::nm)with e4|e4
 .exfalso
  have:∀{T:Tree} {p:ag},(∃x∈T,x.1=p)->(∀x∈T,x.2.k=1)->(fU T p).k=1:=by
   intro T p
   induction T with
   |nil=>rintro⟨x,hx,_⟩;cases hx
   |cons y r ih=>
    rintro⟨x,hx,hxp⟩ hk;obtain⟨q,en⟩:=y;unfold fU;split
    .exact hk (q,en) (by simp)
    .rename_i hne
     rcases gE.1 hx with rfl|hx
     .exact absurd hxp hne
     .exact ih ⟨x,hx,hxp⟩ λz hz=>hk z (by simp[hz])
  have h2:=this (p:=47::nm) ⟨x,hx,e3⟩ λz hz=>(h.1.1 z hz).1;rw[e4]at h2;exact absurd h2 (by decide)
 .rw[e4]
def pR(x:ag):Bool:=Lib.hasPrefix x [46]
def fM(T:Tree):List ag:=(eR T).filter λx=>!pR x
def ao8:an Rc #[.string (S [42])] w (λe w'=>∃p c,e=.returned (.slice p 1 c)/\aS w' w.heap.size bJ 1 (.slice p 1 c) 1 (strs [[42]])/\Still w w'):=by
 apply amO;refine aO λw1 r1 s1 z1=>aO λw2 r2 s2 z2=>bF r2 λw3 r3 m3 z3=>?_;have q3:Row w3 w.heap.size bJ ⟨[.string (S [])]⟩:=(r1.still s2).mod m3 (by omega);have s3:Still w w3:=(s1.trans s2).box (by omega) m3;refine⟨λp1 w4=>Still w w4/\Row w4 w1.heap.size 25 ⟨[.slice (some ⟨w.heap.size,0,none⟩) 1 1]⟩/\((p1=[42]/\Row w4 w.heap.size bJ ⟨[.string (S [])]⟩)\/(p1=[]/\Row w4 w.heap.size bJ ⟨[.string (S [42])]⟩)),λp1 _=>p1.length,⟨s3,r3,.inl ⟨rfl,q3⟩⟩,?_⟩;rintro p1 _ w4 ⟨s4,b4,⟨rfl,q4⟩|⟨rfl,q4⟩⟩
 .refine ax (λ_=>?_) (λh=>by simp at h)
  refine⟨λn w6=>n=1/\w6=w4,⟨λx w5=>x=false/\w5=w4,⟨by decide,42,rfl,ax (λh=>absurd h (by decide)) (λ_=>⟨rfl,rfl⟩)⟩,?_⟩,?_⟩
  .rintro _ _ w5 ⟨rfl,rfl⟩
   exact ax (λh=>by cases h) (λ_=>⟨rfl,rfl⟩)
  rintro _ _ w6 ⟨rfl,rfl⟩;refine⟨by decide,by decide,λx w7=>x=false/\w7=w6,ax (λh=>absurd h (by decide)) (λ_=>⟨by decide,rfl⟩),?_⟩;rintro _ _ w7 ⟨rfl,rfl⟩;refine ax (λh=>by cases h) (λ_=>?_);refine(show an QT #[.string (S [42]),.pointer (some ⟨w1.heap.size,0,none⟩)] w7 (λe w8=>e=.returned (.tuple #[])/\Row w8 w.heap.size bJ ⟨[.string (S [42])]⟩/\Mod (λk=>k=w.heap.size) w7 w8)from ?_).mono ?_
  .apply ame
   have e:i64.wrap (((1:Nat):Int)-1)=0:=by decide
   refine⟨_,_,_,b4.ai rfl,_,_,_,b4.ai rfl,?_⟩;simp only[e];refine⟨by decide,by decide,[],by rw[bM];exact q4.ai rfl,by decide,by decide,by decide,?_⟩;have ea:(Addr.mk w.heap.size 0 none).add (Int.toNat 0*1)=Addr.mk w.heap.size 0 none:=by rw[bM];rfl
   show cA _ _ 0 _ w7;rw[ea];exact bF q4 λw8 r8 m8 z8=>⟨rfl,r8,m8⟩
  .rintro _ w8 ⟨rfl,r8,m8⟩
   exact .inl ⟨rfl,by decide,by decide,⟨s4.box (aR _) m8,b4.mod m8 (by omega),.inr ⟨rfl,r8⟩⟩,show(0:Nat)<1 by decide⟩
 .refine ax (λh=>by simp at h) (λ_=>⟨_,_,_,b4.ai rfl,_,_,rfl,?_,s4⟩)
  exact⟨rfl,.inr ⟨w.heap.size,1,_,rfl,aR _,q4,aR _,by simp only[maxLen];omega,rfl,rfl⟩⟩
def anI:cY aL PY=true:=by kernel_rfl
def ap3(bP:aHx w0)(h0:Still w0 w){a g pb n:Nat}{T:Tree}(hst:cv w w0.heap.size a g none n T)(hp:ga w pb a):
  an Qp #[.agg #[.pointer (some ⟨pb,0,none⟩)],.string (S []),.string (S [42])] w (λe w'=>∃p c,e=.returned (.slice p (fM T).length c)/\aS w' w.heap.size bJ 1 (.slice p (fM T).length c) (fM T).length (strs (fM T))/\Still w w'):=by
 apply alp;refine aO λw1 r1 s1 z1=>aO λw2 r2 s2 z2=>⟨_,r2.ai rfl,(P.R5 [42] (by decide)).mono ?_⟩;rintro _ w3 ⟨rfl,s3⟩;have W1:P.plain [42]=[42]:=by kernel_rfl
 rw[W1];refine .inl ⟨_,rfl,aO λw4 r4 s4 z4=>bF r4 λw5 r5 m5 z5=>?_⟩;have rA:=s3.size;have zj:Still w2 w5:=s3.trans (s4.box (aR _) m5);have q2:=r2.still zj;refine⟨_,q2.ai rfl,(P.RC [42]).mono ?_⟩;rintro _ w6 ⟨rfl,s6⟩;have e1:P.oF [42]=true:=by kernel_rfl
 rw[e1];refine .inl ⟨_,rfl,ax (λh=>by cases h) (λ_=>⟨λx w8=>x=[46]/\w8=w6,ax (λ_=>⟨rfl,rfl⟩) (λh=>absurd h (by decide)),?_⟩)⟩;rintro _ _ w8 ⟨rfl,rfl⟩;have nG:Still w w8:=((s1.trans s2).trans zj).trans s6;have q1:=((r1.still s2).still zj).still s6;refine⟨_,q1.ai rfl,(ack bP (h0.trans nG) (hst.still nG) (hp.still nG) ad8).mono ?_⟩;rintro _ w9 ⟨p,c,rfl,ho,h9,m9⟩;have s9:=R_ m9;have p5:=(r5.still s6).still s9;have p2:=(q2.still s6).still s9;have A4:=nG.size;have gU:=s2.size;have IA:=zj.size;have hs6:=s6.size;refine .inl ⟨_,_,_,_,rfl,(Y1 (P:=pR) (by have:=h9.cB.2.2.2;rw[BL];omega) ho ⟨anI,λx hx w' hm=>?_⟩).mono ?_⟩
 .have na:∀k,k<w8.heap.size->¬(Value.slice p (eR T).length c).ownBlock=some k:=λk hk e=>by have:=(ho.lt k e).1;omega
  have k5:=p5.mod hm (na _ (by have:=r5.lt;omega));have k2:=p2.mod hm (na _ (by have:=r2.lt;omega));apply akM;have hx1:x.length<=1000:=by obtain⟨y,hy,rfl⟩:=dM.1 (G2.1 hx);have:=(h9.cB.1 y hy).1;rw[j_];omega
  have ays:∀{w1:World},an FU #[.string (S [42]),.string (S x)] w1 (λe w'=>e=.returned (.bool true)/\Still w1 w'):=P.arz x (by omega);refine(Tryz.strings_HasPrefix (S x) (S [46]) w').mono ?_;rintro _ w1 ⟨rfl,rfl⟩;refine .inl ⟨_,rfl,ax (λhb=>?_) (λhb=>?_)⟩
  .refine⟨_,k5.ai rfl,(Tryz.strings_HasPrefix (S [42]) (S [46]) w1).mono ?_⟩
   rintro _ w2 ⟨rfl,rfl⟩;refine .inl ⟨_,rfl,ax (λ_=>⟨?_,Still.refl _⟩) (λh=>absurd h (by decide))⟩;have:pR x=true:=hb;rw[this]
  .refine⟨_,k2.ai rfl,ays.mono ?_⟩
   rintro _ w2 ⟨rfl,s2⟩;refine .inl ⟨_,rfl,?_,s2⟩;have:pR x=false:=hb;rw[this];rfl
 rintro _ aP ⟨rfl,tW,m10⟩;have iq:Still w aP:=Mod.trans (nG.trans s9) m10 (λ_ h=>h) (λi hi e=>by have:=(ho.lt i e).1;omega);exact .inl ⟨_,_,_,rfl,p,c,rfl,tW.base λk hk=>by have:=(tW.lt k hk).1;omega,iq⟩
def ap4(bP:aHx w0)(h0:Still w0 w){a g pb n:Nat}{T:Tree}(hst:cv w w0.heap.size a g none n T)(hp:ga w pb a){so:ag}(o:ny so so)(hk:(gz T (jr so)).k=1):
  an Qo #[.agg #[.pointer (some ⟨pb,0,none⟩)],.string (S so)] w (λe w'=>e=.returned (.bool true)/\Still w w'):=by
 apply alo;refine aO λw1 r1 s1 z1=>⟨_,r1.ai rfl,(abX bP (h0.trans s1) (hst.still s1) (hp.still s1) ad8 o false).mono ?_⟩;rintro _ w2 ⟨rfl,h2,m2⟩;refine .inl ⟨_,_,_,_,_,rfl,aO λw3 r3 s3 z3=>bF r3 λw4 r4 m4 z4=>ax (λ_=>⟨_,r4.ai rfl,?_,(s1.trans (R_ m2)).trans (s3.box (aR _) m4)⟩) (λh=>absurd h (by decide))⟩;rw[hk];rfl
abbrev Ia:FuncId:=PX
abbrev UE:TypeId:=25
def Y3:cY aL Ia=true:=by kernel_rfl
def aah(pb:Nat)(so:ag)(l:Option Addr)(lL lC:Nat):an J0 #[.agg #[.pointer (some ⟨pb,0,none⟩)],.string (S so),.slice l lL lC] w (λe w'=>∃lb wo sb,e=.returned (.func (.func Ia) #[] #[.pointer (some ⟨lb,0,none⟩),.pointer (some ⟨wo,0,none⟩),.pointer (some ⟨sb,0,none⟩)])/\Row w' lb UE ⟨[.slice l lL lC]⟩/\Row w' wo VA ⟨[.pointer (some ⟨pb,0,none⟩)]⟩/\Row w' sb bJ ⟨[.string (S so)]⟩/\Still w w'):=by apply alk;exact aO λw1 r1 s1 z1=>aO λw2 r2 s2 z2=>aO λw3 r3 s3 z3=>⟨_,_,_,rfl,r3,(r1.still s2).still s3,r2.still s3,(s1.trans s2).trans s3⟩
def atu(bP:aHx w0)(h0:Still w0 w){a g pb n:Nat}{T:Tree}(hst:cv w w0.heap.size a g none n T)(hp:ga w pb a){so:ag}(o:ny so so)(hk:(gz T (jr so)).k=1){lb wo sb:Nat}{l:Option Addr}{c k:Nat}(r1:Row w lb UE ⟨[.slice l 0 c]⟩)(r2:Row w wo VA ⟨[.pointer (some ⟨pb,0,none⟩)]⟩)(r3:Row w sb bJ ⟨[.string (S so)]⟩){Q:World->Prop}
  (hy:∀w',Still w w'->aIl aL k [.string (S so)] w' (λe w''=>∃b:Bool,e=.returned (.bool b)/\Q w'')):
  an Ia #[aIC k,.pointer (some ⟨lb,0,none⟩),.pointer (some ⟨wo,0,none⟩),.pointer (some ⟨sb,0,none⟩)] w (λe w'=>e=.returned (.tuple #[])/\Q w'):=by
 apply XS;refine aO λw1 q1 s1 z1=>?_;refine⟨_,_,_,(r1.still s1).ai rfl,ax (λ_=>?_) (λh=>absurd rfl (aZ h))⟩;refine⟨_,(r2.still s1).ai rfl,_,(r3.still s1).ai rfl,(ap4 bP (h0.trans s1) (hst.still s1) (hp.still s1) o hk).mono ?_⟩;rintro _ w2 ⟨rfl,s2⟩;refine .inl ⟨_,rfl,ax (λ_=>?_) (λh=>by cases h)⟩;refine⟨_,rfl,(q1.still s2).ai rfl,_,((r3.still s1).still s2).ai rfl,?_⟩;show aIl _ _ _ _ _
 refine(hy w2 (s1.trans s2)).mono ?_;rintro e w3 ⟨b,rfl,hq⟩;exact⟨b,rfl,rfl,hq⟩
def ac_{K:World->Prop}:∀{ms:List Nat} {w:World},ms.Nodup->(∀r∈ms,w.heap[r]?=some (.deferred (some [])))->(∀w',Mod (λk=>k∈ms) w w'->K w')->aI3 ms w K
 |[],w,_,_,h=>h w (Mod.refl _ _)
 |r::ms,w,hn,hr,h=>by
  rw[FM]at hn;refine⟨hr r (by simp),ac_ hn.2 (λq hq=>?_) λw' hm=>h w' ?_⟩
  .exact lS (hr q (by simp[hq])) (uK w r _) (λe=>hn.1 (e▸hq))
  .have m1:Mod (λk=>k∈r::ms) w (w.putObj r (.deferred none)):=(uK w r _).weaken λk (e:k=r)=>by rw[e];exact List.mem_cons_self
   exact Mod.trans m1 hm (λk hk=>hk) (λi _ hk=>Fx _ hk)
def arB{wb:World}(bP:aHx wb)(h0:Still wb w0){a g pb n:Nat}{T:Tree}(hst:cv w0 wb.heap.size a g none n T)(hp:ga w0 pb a)(hg:MF T){lb wo sb B0:Nat}{p:Option Addr}{c:Nat}(r1:Row w0 lb UE ⟨[.slice p 1 c]⟩)(ol:aS w0 B0 bJ 1 (.slice p 1 c) 1 (strs [[42]]))(r2:Row w0 wo VA ⟨[.pointer (some ⟨pb,0,none⟩)]⟩)(r3:Row w0 sb bJ ⟨[.string (S [])]⟩):
  Hx Ia [.pointer (some ⟨lb,0,none⟩),.pointer (some ⟨wo,0,none⟩),.pointer (some ⟨sb,0,none⟩)] w0 (λl'=>l'=fM T) (λi=>i<w0.heap.size):=by
 intro k B Inv X w hH hB hI hs0 hD;have cB:=hst.cB;apply XS;refine aO λw1 q1 s1 z1=>?_;have EY:=hs0.trans s1;refine⟨_,_,_,(r1.still EY).ai rfl,ax (λh=>absurd (aQ h) (by decide)) (λ_=>?_)⟩;refine⟨λx w4=>x=[]/\w4=w1,⟨_,_,_,(r1.still EY).ai rfl,ax (λ_=>⟨rfl,rfl,rfl⟩) (λh=>absurd h (by decide))⟩,?_⟩;rintro _ _ w4 ⟨rfl,rfl⟩;have sD:Still w w4.drew:=s1.cG;have aKv:=hs0.trans sD;obtain⟨gl,rfl,hcl⟩:=(ol.still aKv).aIT (l:=[[42]]) (j:=0) (by decide);refine⟨λwq=>wq=w4.drew,rfl,some ⟨pb,0,none⟩,λwq hq=>by rw[hq];exact(r2.still aKv).ai rfl,[],λwq hq=>by rw[hq];exact(r3.still aKv).ai rfl,some ⟨gl,0,none⟩,1,c,λwq hq=>by rw[hq];exact(r1.still aKv).ai rfl,by decide,by decide,[42],λwq hq=>by rw[hq];exact hcl,?_⟩;refine(ap3 bP (h0.trans aKv) (hst.still aKv) (hp.still aKv)).mono ?_;rintro _ w5 ⟨pn,cn,rfl,on,s5⟩;have W2:Still w w5:=sD.trans s5;have aH6:=hs0.trans W2;have IA:=W2.size;have hz0:=hs0.size;have I5:=hH.grow X [] w w5 hI W2
 let X5:Nat->Prop:=λi=>X i\/(w.heap.size<=i/\i<w5.heap.size)
 have x0:∀i,i<w0.heap.size->X5 i:=λi hi=>.inl (hD i hi);have xn:∀i,w.heap.size<=i->i<w5.heap.size->X5 i:=λi h1 h2=>.inr ⟨h1,h2⟩;have hzD:w.heap.size<=w4.drew.heap.size:=sD.size;refine .inl ⟨_,_,_,rfl,λx ms w6=>∃(i:Nat) (X6:Nat->Prop),x=(i:Int)/\i<=(fM T).length/\Inv X6 ((fM T).take i) w6/\(∀j,X5 j->X6 j)/\Mod (λj=>¬X5 j) w5 w6/\ms.Nodup/\∀r∈ms,X6 r/\w5.heap.size<=r/\r<w6.heap.size/\w6.heap[r]?=some (.deferred (some [])),λx _=>((fM T).length-x).toNat,⟨0,X5,rfl,dU _,I5,λ_ h=>h,Mod.refl _ _,List.nodup_nil,λr hr=>by cases hr⟩,?_⟩;rintro _ _ ms w6 ⟨i,X6,rfl,hi,I6,W3,m6,hnd,AY⟩;have A4:=m6.size;refine ax (λhx=>?_) (λhx=>?_)
 .have hx:i<(fM T).length:=by have:=aQ hx;omega
  have keep:∀{w':World},Still w6 w'->Mod (λj=>¬X5 j) w5 w':=λh=>Mod.trans m6 h (λ_ h=>h) (λ_ _ h=>h.elim);have on6:=on.mod m6 λj hj hn=>hn (xn j (by have:=(on.lt j hj).1;omega) (on.lt j hj).2);obtain⟨gn,rfl,hcn⟩:=on6.aIT hx;have W4:Still w6 w6.drew:=(Still.refl _).cG;have base:∀{w':World} {b:Nat} {ty:TypeId} {cs:Array Value},Row w0 b ty cs->Mod (λj=>¬X5 j) w5 w'->Row w' b ty cs:=λhr hm=>(hr.still aH6).mod hm λhn=>hn (x0 _ hr.lt);have kD:=keep W4;refine⟨by omega,by omega,_,by rw[bW];exact hcn,λwq=>wq=w6.drew,rfl,some ⟨pb,0,none⟩,λwq hq=>by rw[hq];exact(base r2 kD).ai rfl,[],λwq hq=>by rw[hq];exact(base r3 kD).ai rfl,?_⟩;generalize hnm:(fM T)[i]=nm;have hmem:nm∈fM T:=by rw[<-hnm];exact kL hx
  have hmn:nm∈nU T:=G2.1 (FN.1 hmem).1;have one:=(hg.2 nm hmn).1;have hlen:nm.length<=200:=one.len;refine⟨by simp;omega,by simp;omega,some ⟨gl,0,none⟩,1,c,λwq hq=>by rw[hq];exact(base r1 kD).ai rfl,by decide,by decide,?_⟩;have enm:(([]:ag)++nm)++[]=nm:=by simp
  rw[enm];refine(aah pb nm _ _ _).mono ?_;rintro _ w7 ⟨lb7,wo7,sb7,rfl,c1,c2,c3,s7⟩;refine .inl ⟨_,rfl,rfl,aI1 (cap:=[.pointer (some ⟨lb7,0,none⟩),.pointer (some ⟨wo7,0,none⟩),.pointer (some ⟨sb7,0,none⟩)]) (ax (λ_=>?_) (λh=>by rw[Y3]at h;cases h))⟩;intro rec aFR hpe hy;have hk0:((w7.alloc (.deferred (some []))).alloc (.loop rec)).heap[w7.heap.size+1]?=some (.loop rec):=by have:=heap_alloc_new (w7.alloc (.deferred (some []))) (.loop rec);simpa using this
  have hd0:((w7.alloc (.deferred (some []))).alloc (.loop rec)).heap[w7.heap.size]?=some (.deferred (some [])):=by rw[heap_alloc_old _ _ (by simp)];exact heap_alloc_new w7 _
  have s8:Still w7 ((w7.alloc (.deferred (some []))).alloc (.loop rec)):=((Still.refl w7).alloc _).alloc _;have NO:((w7.alloc (.deferred (some []))).alloc (.loop rec)).heap.size=w7.heap.size+2:=by simp
  generalize(w7.alloc (.deferred (some []))).alloc (.loop rec)=w8 at*;have wR:Still w6 w8:=(W4.trans s7).trans s8;have k8:=keep wR;have ayt:Still wb w8:=Mod.trans (h0.trans aH6) k8 (λ_ h=>h) (λj hj hn=>hn (x0 j (by have:=h0.size;omega)));have HW:cv w8 wb.heap.size a g none n T:=(hst.still aH6).mod k8 λj hj hn=>hn (x0 j (hst.aHO hj).2);have Wd:ga w8 pb a:=base hp k8;have aBh:w6.heap.size<=w7.heap.size:=(W4.trans s7).size;have hlt:((fM T).take i).length<1000000:=by have h1:(fM T).length<=(eR T).length:=Pp _ _;rw[BL]at h1;have:=cB.2.2.2;rw[eZ];omega
  have CP:B<=w7.heap.size:=by omega
  let Q:World->Prop:=λw''=>w''.heap[w7.heap.size+1]?=some (.loop rec)/\∃X':Nat->Prop,Inv X' ((fM T).take i++[nm]) w''/\(∀j,X6 j->X' j)/\X' w7.heap.size/\X' (w7.heap.size+1)/\w''.heap[w7.heap.size]?=some (.deferred (some []))/\Mod (λj=>¬X5 j) w5 w''/\(∀r∈ms,w''.heap[r]?=some (.deferred (some [])))/\w8.heap.size<=w''.heap.size
  refine(atu (Q:=Q) bP ayt HW Wd one (arA cB hg hmn) (c1.still s8) (c2.still s8) (c3.still s8) λw' hw'=>?_).mono ?_
  .have hzw:=hw'.size
   have hl':w'.heap[w7.heap.size+1]?=some (.loop rec):=lS hk0 hw' (λh=>h);have hd':w'.heap[w7.heap.size]?=some (.deferred (some [])):=lS hd0 hw' (λh=>h);have W5:Still w6 w':=wR.trans hw';have I':=hH.grow X6 _ w6 w' I6 W5;refine hy nm w' _ hl' ⟨rfl,hl',mg ?_⟩;have mp:=uK w' (w7.heap.size+1) (mL rec);have hb:(w'.putObj (w7.heap.size+1) (mL rec)).heap[w7.heap.size+1]?=some (mL rec):=World.putObj_heap_same (rV hl');have hzz:(w'.putObj (w7.heap.size+1) (mL rec)).heap.size=w'.heap.size:=World.putObj_size ..;generalize w'.putObj (w7.heap.size+1) (mL rec)=wc at*
   let X7:Nat->Prop:=λj=>X6 j\/(w6.heap.size<=j/\j<w'.heap.size)
   have xa:X7 w7.heap.size:=.inr ⟨aBh,by omega⟩;have xb:X7 (w7.heap.size+1):=.inr ⟨by omega,by omega⟩;have Ic:Inv X7 ((fM T).take i) wc:=hH.Er _ _ _ _ I' (mp.weaken λj (e:j=w7.heap.size+1)=>⟨by rw[e];exact xb,by omega⟩);have mc:Mod (λj=>¬X5 j) w5 wc:=Mod.trans (keep W5) mp (λ_ h=>h) (λj hj (e:j=w7.heap.size+1)=>by omega);have qy:Row wc w.heap.size 161 ⟨[aIC k]⟩:=(((q1.still (Still.refl _).cG).still s5).mod mc λhn=>hn (xn _ (aR _) (by have:=(q1.still (Still.refl _).cG).lt;have:=s5.size;omega)));refine⟨_,rfl,qy.ai rfl,?_⟩;show aIl _ _ _ _ _
   refine(hH.step X7 _ nm wc hlt Ic).mono ?_;rintro _ wd ⟨rfl,Id,md⟩;have bd:=lS hb md (λh=>h xb);have hzd:=md.size;refine⟨true,rfl,ax (λh=>by cases h) (λ_=>⟨bd,true,rfl,?_⟩)⟩;have mq:=uK wd (w7.heap.size+1) (.loop rec);have hzq:(wd.putObj (w7.heap.size+1) (.loop rec)).heap.size=wd.heap.size:=World.putObj_size ..;have hbq:(wd.putObj (w7.heap.size+1) (.loop rec)).heap[w7.heap.size+1]?=some (.loop rec):=World.putObj_heap_same (rV bd);generalize wd.putObj (w7.heap.size+1) (.loop rec)=we at*;have dc:=lS hd' mp (λe=>by omega);have dd:=lS dc md (λh=>h xa);refine⟨hbq,X7,hH.Er _ _ _ _ Id (mq.weaken λj (e:j=w7.heap.size+1)=>⟨by rw[e];exact xb,by omega⟩),λj hj=>.inl hj,xa,xb,lS dd mq (λe=>by omega),?_,λr hr=>?_,by omega⟩
   .exact Mod.trans (Mod.trans mc (md.weaken λj hn h5=>hn (.inl (W3 j h5))) (λ_ h=>h) (λj hj h=>h)) mq (λ_ h=>h) (λj hj (e:j=w7.heap.size+1)=>by omega)
   .obtain⟨cy,hr2,hr3,hr4⟩:=AY r hr
    have e1:=lS hr4 W5 (λh=>h);have e2:=lS e1 mp (λe=>by omega);have e3:=lS e2 md (λh=>h (.inl cy));exact lS e3 mq (λe=>by omega)
  rintro _ w9 ⟨rfl,zo,X',I9,x6',xa,xb,hd9,m9,aBi,A3⟩;refine⟨⟨_,rfl⟩,.inl ⟨zo,mg ?_⟩⟩;have mq:=uK w9 (w7.heap.size+1) (.loop {rec with state:=.exhausted});have hzq:(w9.putObj (w7.heap.size+1) (.loop {rec with state:=.exhausted})).heap.size=w9.heap.size:=World.putObj_size ..;generalize w9.putObj (w7.heap.size+1) (.loop {rec with state:=.exhausted})=aP at*;have ei:i64.wrap ((i:Int)+1)=((i+1:Nat):Int):=by rw[wrap_i64 (by have:=cB.2.2.2;omega) (by have h1:(fM T).length<=(eR T).length:=Pp _ _;rw[BL]at h1;have:=cB.2.2.2;omega)];omega
  rw[ei];refine⟨⟨i+1,X',rfl,by omega,?_,λj hj=>x6' j (W3 j hj),?_,?_,λr hr=>?_⟩,by dsimp only;omega⟩
  .have e:(fM T).take (i+1)=(fM T).take i++[nm]:=by rw[Bj hx,hnm]
   rw[e];exact hH.Er _ _ _ _ I9 (mq.weaken λj (e:j=w7.heap.size+1)=>⟨by rw[e];exact xb,by omega⟩)
  .exact Mod.trans m9 mq (λ_ h=>h) (λj hj (e:j=w7.heap.size+1)=>by omega)
  .rw[FM]
   refine⟨λhin=>?_,hnd⟩;have:=(AY _ hin).2.2.1;omega
  .rcases gE.1 hr with rfl|hr
   .exact⟨xa,by omega,by omega,lS hd9 mq (λe=>by omega)⟩
   .obtain⟨cy,hr2,hr3,hr4⟩:=AY r hr
    exact⟨x6' r cy,hr2,by omega,lS (aBi r hr) mq (λe=>by omega)⟩
 .have hx:i=(fM T).length:=by have:=aZ hx;omega
  subst hx;rw[aH0]at I6;refine ac_ hnd (λr hr=>(AY r hr).2.2.2) λw' hm=>⟨rfl,fM T,X6,rfl,hH.Er _ _ _ _ I6 (hm.weaken λj hj=>⟨(AY j hj).1,by have:=(AY j hj).2.1;omega⟩),λj hj=>W3 j (.inl hj)⟩
def pM(T:Tree):List ag:=if fM T=[]then[[42]]else fM T
def atv{T:Tree}(hg:MF T):Uw T [42] (pM T):=by
 intro w w0 a g pb he h0 hst hp;have e1:P.oF [42]=true:=by kernel_rfl
 have W1:P.plain [42]=[42]:=by kernel_rfl
 apply YY;refine(P.RC [42]).mono ?_;rintro _ w1 ⟨rfl,s1⟩;rw[e1];refine .inl ⟨_,rfl,ax (λ_=>ax (λ_=>ao8.mono ?_) (λh=>absurd h (by decide))) (λh=>by cases h)⟩;rintro _ w2 ⟨p,c,rfl,ho,s2⟩;refine .inl ⟨_,_,_,rfl,(aah pb [] p 1 c).mono ?_⟩;rintro _ w3 ⟨lb,wo,sb,rfl,r1,r2,r3,s3⟩;have jh:=(s1.trans s2).trans s3;refine .inl ⟨_,rfl,rfl,?_⟩;refine(show an Fv #[.func (.func Ia) #[] #[.pointer (some ⟨lb,0,none⟩),.pointer (some ⟨wo,0,none⟩),.pointer (some ⟨sb,0,none⟩)]] w3 (λe w'=>∃p c,e=.returned (.slice p (fM T).length c)/\aS w' w3.heap.size bJ 1 (.slice p (fM T).length c) (fM T).length (strs (fM T))/\Still w3 w')from ?_).mono ?_
 .apply XA
  refine(Za Y3 (arB he (h0.trans jh) (hst.still jh) (hp.still jh) hg r1 (ho.still s3) r2 r3) (λi hi=>hi)).mono ?_;rintro _ w4 ⟨l',p',c',rfl,rfl,ho',s4⟩;exact .inl ⟨_,_,_,rfl,p',c',rfl,ho',s4⟩
 rintro _ w4 ⟨p',c',rfl,o4,s4⟩;unfold pM;refine .inl ⟨_,_,_,rfl,ax (λhl=>?_) (λhl=>?_)⟩
 .have hl:fM T≠[]:=λe=>by rw[e]at hl;exact absurd hl (by decide)
  rw[aH hl];exact⟨_,_,rfl,⟨rfl,At.own o4⟩,jh.trans s4⟩
 .have hl:fM T=[]:=mC (by have:=aZ hl;omega)
  rw[aN hl];refine(P.R5 [42] (by decide)).mono ?_;rintro _ w5 ⟨rfl,s5⟩;rw[W1];exact .inl ⟨_,rfl,aO λw6 r6 s6 z6=>⟨_,_,rfl,cZ.row (l:=[[42]]) r6,((jh.trans s4).trans s5).trans s6⟩⟩
def k_:List ag->ag
 |[]=>[]
 |x::r=>x++[10]++k_ r
def ada(l:List ag)(x:ag):k_ (l++[x])=k_ l++(x++[10]):=by
 induction l with
 |nil=>simp[k_]
 |cons y r ih=>simp[k_,ih]
def adb(l:List ag):(k_ l).length=total l:=by
 induction l with
 |nil=>rfl
 |cons y r ih=>rw[Bz];simp only[k_,aHb,a_,cq,ih]
def u6(l:List ag):List ag:=l.filter λx=>!pR x
def ZH(p:ag->Bool):∀l:List ag,total (l.filter p)<=total l
 |[]=>aR _
 |x::r=>by
  have:=ZH p r;rw[Qs,Bz];split
  .rw[Bz];omega
  .omega
def TJ{T:Tree}(cB:tI T)(k:Nat):(k_ (u6 ((eR T).take k))).length<=60000:=by have h1:=Sy cB;have h4:=ZH (λx=>!pR x) ((eR T).take k);have h5:=Zi (eR T) k;rw[adb];exact kf h4 (kf h5 h1)
def ade{l:List ag}{k:Nat}(hk:k<l.length):u6 (l.take (k+1))=if pR l[k]then u6 (l.take k)else u6 (l.take k)++[l[k]]:=by
 rw[Bj hk,u6,P5];cases h:pR l[k]with
 |true=>simp[u6,h]
 |false=>simp[u6,h]
def ayu(n bh:ag)(T:Tree):Vz FZ n [] T bh 0 (k_ (fM T)) [] T:=by
 intro w w0 a g rb pb t p c bP h0 hst aJh hrf hr hrb hA hAb yM;have Ol:¬RF (some t) rb:=λh=>hrb (RF.sf h);have cB:=hst.cB;have hf:gz T (jr [46])=⟨2,7,[]⟩:=rfl;apply amz;refine⟨λb w1=>b=false/\w1=w,ax (λh=>by simp at h) (λ_=>⟨rfl,rfl⟩),?_⟩;rintro _ _ w1 ⟨rfl,rfl⟩;refine⟨λp2 l2 c2 w2=>p2=p/\l2=0/\c2=c/\w2=w1,ax (λh=>by cases h) (λ_=>⟨rfl,rfl,rfl,rfl⟩),?_⟩;rintro _ _ _ _ w2 ⟨rfl,rfl,rfl,rfl⟩;refine⟨λp4 l4 c4 w4=>p4=some ⟨w2.heap.size,0,none⟩/\l4=1/\Row w4 w2.heap.size bJ ⟨[.string (S [46])]⟩/\Still w2 w4,ax (λ_=>aO λw3 r3 s3 z3=>⟨rfl,rfl,r3,s3⟩) (λh=>absurd rfl (aZ h)),?_⟩;rintro _ _ c4 _ w4 ⟨rfl,rfl,r4,s4⟩;have hr4:yO w4 rb pb n bh 0 [] []:=Row.still hr s4;refine⟨λx w5=>(x=0/\w5=w4)\/(x=1/\yO w5 rb pb n bh 0 (k_ (fM T)) []/\cv w5 w0.heap.size a g (some t) 7 T/\Mod (λk=>SF a g (some t) k\/k=rb) w4 w5),λx _=>(1-x).toNat,.inl ⟨rfl,rfl⟩,?_⟩;rintro x _ w5 (⟨rfl,rfl⟩|⟨rfl,h1,h2,h3⟩)
 .refine ax (λ_=>⟨by decide,by decide,_,r4.ai rfl,?_⟩) (λh=>by simp at h)
  have aKu:Mod (λk=>SF a g (some t) k\/k=rb) w2 w5:=s4.weaken λ_ h=>h.elim;refine⟨λbg=>yO bg rb pb n bh 0 [] []/\cv bg w0.heap.size a g (some t) 3 T/\Mod (RF (some t)) w5 bg,?_,?_⟩
  .refine⟨_,hr4.ai rfl,(abX bP (h0.trans s4) (hst.still s4) (aJh.still s4) hrf ad7 true).mono ?_⟩
   rintro _ w6 ⟨rfl,h6,m6⟩;rw[hf];refine .inl ⟨_,_,_,_,_,rfl,aO λw7 r7 s7 z7=>bF (g:=w6.heap.size) (o:=0) r7 λw8 r8 m8 z8=>?_⟩;have wR:Still w6 w8:=s7.box (aR _) m8;refine⟨λb w9=>b=false/\w9=w8,ax (λ_=>⟨_,r8.ai rfl,rfl,rfl⟩) (λ_=>⟨rfl,rfl⟩),?_⟩;rintro _ _ w9 ⟨rfl,rfl⟩;exact ax (λh=>by cases h) (λ_=>⟨(Row.mod hr4 m6 Ol).still wR,h6.still wR,Mod.trans m6 wR (λ_ h=>h) (λ_ _ h=>h.elim)⟩)
  rintro _ bg ⟨gJ,h11,m11⟩;have hrw:∀k,w5.heap.size<=k->¬RF (some t) k:=λk hk hr=>RF.new (hst.still s4) hk hr;have VB:Mod (RF (some t)) w2 bg:=Mod.trans s4 m11 (λ_ h=>h.elim) (λ_ _ h=>h);have aLa:Still w0 bg:=Mod.trans h0 VB (λ_ h=>h) λi hi e=>by have:=(hst.aHO (RF.sf e)).1;omega
  have H6:=aJh.mod VB hrf;refine⟨_,gJ.ai rfl,(ack bP aLa h11 H6 hrf).mono ?_⟩;rintro _ bI ⟨p',c',rfl,ho,h12,m12⟩;have mX:yO bI rb pb n bh 0 [] []:=Row.mod gJ m12 Ol;refine .inl ⟨_,_,_,_,rfl,(ad5 _ _).mono ?_⟩;rintro _ aHa ⟨rfl,rfl⟩;have aFS:Mod (RF (some t)) w2 aHa:=Mod.trans VB m12 (λ_ h=>h) (λ_ _ h=>h);have hrl:rb<bg.heap.size:=by have:=Row.lt gJ;omega
  refine .inl ⟨rfl,λx bR=>∃k:Nat,x=(k:Int)/\k<=(eR T).length/\yO bR rb pb n bh 0 (k_ (u6 ((eR T).take k))) []/\aS bR bg.heap.size bJ 1 (.slice p' (eR T).length c') (eR T).length (strs (eR T))/\Mod (λj=>j=rb) aHa bR,λx _=>((eR T).length-x).toNat,⟨0,rfl,dU _,mX,ho,Mod.refl _ _⟩,?_⟩;rintro _ _ bR ⟨k,rfl,hk,rH,Om,m14⟩;have hL:(eR T).length<=51:=by rw[BL];exact cB.2.2.2
  have ek:i64.wrap ((k:Int)+1)=((k+1:Nat):Int):=wI;refine ax (λhx=>?_) (λhx=>?_)
  .have hx:k<(eR T).length:=by have:=aQ hx;omega
   obtain⟨gl,rfl,hcl⟩:=Om.aIT hx;have hlf:=TJ cB k;have hx1:=ade hx;have aBj:=TJ cB (k+1);rw[hx1]at aBj;refine⟨by omega,by omega,_,by rw[bW];exact hcl,ax (λh=>by cases h) (λ_=>?_)⟩;generalize hnm:(eR T)[k]=nm at*;have hnl:nm.length+1<=total (eR T):=Sj (by rw[<-hnm];exact kL hx);have hnt:=Sy cB;refine(Tryz.strings_HasPrefix (S nm) (S [46]) bR).mono ?_;rintro _ bX ⟨rfl,rfl⟩;rw[ek];refine .inl ⟨_,rfl,ax (λhb=>?_) (λhb=>?_)⟩
   .have hh:pR nm=false:=by unfold pR;simpa using hb
    rw[hh,aH (by decide)]at hx1;refine⟨_,rH.ai rfl,by simp;omega,by simp;omega,?_⟩;refine bF (g:=rb) (o:=4) rH λcF zm m17 z17=>⟨⟨k+1,rfl,hx,?_,Om.mod m17 λj hj e=>?_,Mod.trans m14 m17 (λ_ h=>h) (λ_ _ h=>h)⟩,by dsimp only;omega⟩
    .rw[hx1,ada]
     exact zm
    .have:=(Om.lt j hj).1
     omega
   .have hh:pR nm=true:=by unfold pR;simpa using hb
    rw[hh,aN rfl]at hx1;exact⟨⟨k+1,rfl,hx,by rw[hx1];exact rH,Om,m14⟩,by dsimp only;omega⟩
  .have hx:k=(eR T).length:=by have:=aZ hx;omega
   subst hx;rw[aH0]at rH;refine⟨.inr ⟨by decide,rH,h12.mod m14 λk hk e=>hrb (e▸hk),?_⟩,by dsimp only;decide⟩;refine Mod.trans ?_ m14 (λ_ h=>h) λ_ _ h=>.inr h;exact(Mod.trans m11 m12 (λ_ h=>h) (λ_ _ h=>h)).weaken λ_ h=>.inl (RF.sf h)
 .exact ax (λh=>by simp at h) (λ_=>⟨rfl,h1,⟨7,by decide,h2⟩,Mod.trans s4 h3 (λ_ h=>h.elim) (λ_ _ h=>h)⟩)
end Go.Proofs.YtihaaoehhgmphaaGreatDoor
namespace Go.Proofs.YtihaaoehhgmphaaGreatDoor
open IntKind Go.RowKit Vc
set_option maxRecDepth 100000
variable{w w0:World}{K:Kx}{s:Sh}
def MG(nm:ag)(kd:L.Nd):List ag->Sh->Sh->Prop
 |[],s,s'=>s'=s
 |x::r,s,s'=>A.aIx s.V/\s.V.length<900000/\(A.yC s.V nm x).2=0/\∃s1,mY kd {s with V:=(A.yC s.V nm x).1} s1/\s1.way=0/\MG nm kd r s1 s'
def atw(h:bx w w0 K s)(hw:s.way=0):an PB #[.pointer (some ⟨K.hb,0,none⟩)] w (λe w'=>e=.returned (.bool false)/\w'=w):=by apply ake;refine⟨_,h.cell (i:=9) λ_ _=>rfl,?_⟩;rw[hw];exact ax (λh=>absurd h (by decide)) (λ_=>ax (λh=>absurd h (by decide)) (λ_=>⟨rfl,rfl⟩))
def axa{n kd:L.Nd}{f:List ag}{V1:List A.Vr}{s3:Sh}(hk:n.ks=[kd])(ho:n.os≠[])(hf:yJ s.T n.ws s.V f V1 0)(hsz:dF f<=10000)(y_:n.ws.length<=10000)(he:s.err.length<=900000)(hlo:s.loops=0)
  (hE:MG n.nm kd f {s with V:=V1,st:=0,loops:=1} s3)(sM:s3.loops=1)(hnm:n.nm.length<=10000):CX JR n s {s3 with loops:=0}:=by
 intro w w0 K D cs bP h0 h hn hD;obtain⟨pw,cw,pa,ca,pr,cr,po,co,pk,ck,rfl,hw,ha,hrd,hos,hks⟩:=hn.outs;apply ak4;refine aO λw1 r1 s1 z1=>aO λw2 r2 s2' z2=>?_;have q1:=r1.still s2';have dD:=s1.trans s2';have h2:=h.still dD;have aI7:=h.gone dD;refine⟨_,q1.ai rfl,_,_,_,h2.cell (i:=4) λ_ _=>rfl,_,_,_,r2.ai rfl,ax (λ_=>?_) (λhb=>absurd (mC (by have:=aZ hb;omega)) ho)⟩;refine⟨_,q1.ai rfl,_,_,_,r2.ai rfl,?_⟩;refine(ZC bP (td h h0 aI7) h2 (hw.mod aI7.mod λk hk=>(hD k hk).2) (hD.gone aI7) hf hsz y_ he).mono ?_;rintro _ w3 ⟨h3,g3⟩;rw[aN rfl]at h3;obtain⟨o,oc,rfl,sP,h3⟩:=h3;have jj:=aI7.trans g3;have q3:=q1.mod g3.mod (iX h2 q1);have n3:=r2.mod g3.mod (iX h2 r2);refine .inl ⟨_,_,_,_,rfl,ax (λh=>by cases h) (λ_=>⟨_,q3.ai rfl,h3.HD 0 λw4 h4 g4 m4=>?_⟩)⟩;have IY:=jj.trans g4;have q4:=q3.mod g4.mod (iX h3 q3);have n4:=n3.mod g4.mod (iX h3 n3);have On:∀{wa wb:World} {sa:Sh},bx wa w0 K sa->aS wa w2.heap.size bJ 1 (.slice o f.length oc) f.length (strs f)->cj (Ft K wa) wa (Ft K wb) wb->aS wb w2.heap.size bJ 1 (.slice o f.length oc) f.length (strs f):=λhs ho hg=>ho.mod hg.mod λk hk hF=>by obtain⟨cur,hr⟩:=ho.typed hk;exact(iX hs hr) hF
 have o4:=On h3 sP g4;refine⟨_,q4.ai rfl,_,h4.cell (i:=11) λ_ _=>rfl,?_⟩;have e1:i64.wrap (s.loops+1)=1:=by rw[hlo];decide
 try dsimp only[zR]
 rw[e1];refine h4.acY 1 λw5 h5 g5 m5=>?_;have N6:=IY.trans g5;have q5:=q4.mod g5.mod (iX h4 q4);have n5:=n4.mod g5.mod (iX h4 n4);have o5:=On h4 o4 g5;have hfl:=G1 f;refine⟨λx w6=>∃(i:Nat) (si:Sh),x=(i:Int)/\i<=f.length/\bx w6 w0 K si/\cj (Ft K w) w (Ft K w6) w6/\Row w6 w.heap.size ym ⟨[.pointer (some ⟨K.hb,0,none⟩)]⟩/\Row w6 w1.heap.size KQ ⟨L.jg n (.slice pw n.ws.length cw) (.slice pa n.aHv.length ca) (.slice pr n.rs.length cr) (.slice po n.os.length co) (.slice pk n.ks.length ck)⟩/\aS w6 w2.heap.size bJ 1 (.slice o f.length oc) f.length (strs f)/\MG n.nm kd (f.drop i) si s3,λx _=>(f.length-x).toNat,⟨0,_,rfl,dU _,h5,N6,q5,n5,o5,hE⟩,?_⟩;rintro _ _ w6 ⟨i,si,rfl,hi,h6,g6,q6,n6,o6,Oo⟩;refine ax (λhx=>?_) (λhx=>?_)
 .have hx:i<f.length:=by have:=aQ hx;omega
  rw[qM hx]at Oo;obtain⟨cy,hr2,hr3,sn,hex,aLb,yl⟩:=Oo;obtain⟨go,rfl,hc⟩:=o6.aIT hx;have sD:Still w6 w6.drew:=(Still.refl _).cG;have h6D:=h6.still sD;obtain⟨vp,vc,hh6,ET⟩:=h6D.fW;have q6D:=q6.still sD;have n6D:=n6.still sD;refine⟨by omega,by omega,_,by rw[bW];exact hc,λwq=>wq=w6.drew,rfl,some ⟨K.hb,0,none⟩,λwq hq=>by rw[hq];exact q6D.ai rfl,vp,si.V.length,vc,λwq hq=>by rw[hq];exact hh6.ai rfl,n.nm,λwq hq=>by rw[hq];exact n6D.ai rfl,?_⟩;refine(A.avl ET cy hr2 n.nm f[i] (by omega)).mono ?_;rintro _ w7 ⟨q,qD,rfl,hv7,s7⟩;rw[hr3];have E5:=sD.trans s7;have h7:=h6.still E5;have q7:=q6.still E5;refine .inl ⟨_,_,_,_,rfl,_,q7.ai rfl,(S0 w7 K).mono ?_⟩;rintro _ w8 ⟨rfl,rfl⟩;refine .inl ⟨_,rfl,ax (λh=>by cases h) (λ_=>⟨_,q7.ai rfl,h7.U7 hv7 λaP h10 g10 m10=>?_⟩)⟩;have aBk:=(h6.gone E5).trans g10;have aBl:=g6.trans aBk;have sE:Still aP aP.drew:=(Still.refl _).cG;have W6:=(q7.mod g10.mod (iX h7 q7)).still sE;have n10:=((n6.still E5).mod g10.mod (iX h7 (n6.still E5))).still sE;have tW:=(On h7 (o6.still E5) g10).still sE;have Nl:=h10.still sE;have MH:=aBl.trans (h10.gone sE);have hlk:0<n.ks.length:=by rw[hk];exact Nat.zero_lt_one
  have V9:n.ks[0]=kd:=by simp[hk]
  obtain⟨b,qw,dw,qa,da,qr,dr,qo,dq,qk,dk,rfl,N0,hnd,hcell⟩:=S1 (hks.mod MH.mod λk hk=>(hD k hk).2) hlk;rw[V9]at hnd hcell;have cc:∀(j:Nat) (v:Value),(L.jg kd (.slice qw kd.ws.length dw) (.slice qa kd.aHv.length da) (.slice qr kd.rs.length dr) (.slice qo kd.os.length dq) (.slice qk kd.ks.length dk))[j]?=some v->∀wq,wq=aP.drew->wq.cell? ((b.add (0*8)).add j)=some v:=λj v hv wq hq=>by rw[hq];exact hcell j v hv
  refine⟨λwq=>wq=aP.drew,rfl,some ⟨K.hb,0,none⟩,λwq hq=>by rw[hq];exact W6.ai rfl,some b,n.ks.length,ck,λwq hq=>by rw[hq];exact n10.ai rfl,by decide,by omega,?_⟩;refine⟨kd.k,kd.neg,kd.nm,qw,kd.ws.length,dw,qa,kd.aHv.length,da,qr,kd.rs.length,dr,qo,kd.os.length,dq,qk,kd.ks.length,dk,cc 0 _ rfl,cc 1 _ rfl,cc 2 _ rfl,cc 3 _ rfl,cc 4 _ rfl,cc 5 _ rfl,cc 6 _ rfl,cc 7 _ rfl,?_⟩;refine(hex aP.drew w0 K D _ bP (td h h0 MH) Nl hnd (hD.gone MH)).mono ?_;rintro _ bg ⟨rfl,h11,g11⟩;have M9:=MH.trans g11;have q11:=W6.mod g11.mod (iX Nl W6);have n11:=n10.mod g11.mod (iX Nl n10);have rJ:=On Nl tW g11;refine .inl ⟨rfl,_,q11.ai rfl,(atw h11 aLb).mono ?_⟩;rintro _ bI ⟨rfl,rfl⟩;rw[wrap_i64 (by omega) (by omega)];exact .inl ⟨_,rfl,ax (λh=>by cases h) (λ_=>⟨⟨i+1,sn,by omega,by omega,h11,M9,q11,n11,rJ,yl⟩,by dsimp only;omega⟩)⟩
 .have hx:i=f.length:=by have:=aZ hx;omega
  subst hx;rw[aJx]at Oo;obtain rfl:s3=si:=Oo;refine(avq (some ⟨w.heap.size,0,none⟩) .returning w6 (λe w'=>e=.returned (.tuple #[])/\bx w' w0 K {s3 with loops:=0}/\cj (Ft K w) w (Ft K w') w') ?_).mono ?_
  .refine⟨_,q6.ai rfl,_,h6.cell (i:=11) λ_ _=>rfl,?_⟩
   have e2:i64.wrap (s3.loops-1)=0:=by rw[sM];decide
   try dsimp only[zR]
   rw[e2];exact h6.acY 0 λw7 h7 g7 m7=>⟨rfl,h7,g6.trans g7⟩
  .rintro _ u w7 ⟨rfl,rfl,h7,g7⟩
   exact⟨⟨_,rfl⟩,rfl,rfl,h7,g7⟩
def an8:cY aL JF=true:=by kernel_rfl
def ayv{n:L.Nd}{s':Sh}(hk:n.k=8)(hrs:n.rs=[])(hw:s.way=0)(hf:0<s.fuel)(h:CX JR n {s with fuel:=s.fuel-1} s'):mY n s s':=by
 intro w w0 K D cs bP h0 hs hn hD;have hn0:=hn;obtain⟨pw,cw,pa,ca,pr,cr,po,co,pk,ck,rfl,rG,ha,hrd,ho,hks⟩:=hn.outs;apply XV;refine aO λw1 r1 s1 z1=>aO λw2 r2 s2' z2=>?_;have dD:=s1.trans s2';have h2:=hs.still dD;have q2:=r1.still s2';obtain⟨x,hx⟩:=h2.gX;have hfl:=hx.cB.2.2;refine⟨_,q2.ai rfl,_,h2.cell λ_ _=>rfl,ax (λhb=>absurd hw (by simpa using hb)) (λ_=>?_)⟩;refine⟨_,q2.ai rfl,_,h2.cell λ_ _=>rfl,_,hx.row.ai rfl,ax (λhb=>by have:=aQ hb;omega) (λ_=>?_)⟩;refine⟨_,q2.ai rfl,_,h2.cell λ_ _=>rfl,_,hx.row.ai rfl,?_⟩;have ew:i64.wrap ((s.fuel:Int)-1)=((s.fuel-1:Nat):Int):=wI
 try dsimp only[zR]
 rw[ew];refine h2.ad0 (s.fuel-1) (by omega) λw3 h3 g3=>?_;have q3:=q2.mod g3.mod (iX h2 q2);have n3:=r2.mod g3.mod (iX h2 r2);have jj:=(hs.gone dD).trans g3;refine⟨_,n3.ai rfl,?_⟩;refine ax (λhb=>by have:=aQ hb;omega) (λ_=>ax (λhb=>by have:=aQ hb;omega) (λ_=>ax (λhb=>by have:=aQ hb;omega) (λ_=>ax (λhb=>by have:=aQ hb;omega) (λ_=>ax (λhb=>by have:=aQ hb;omega) (λ_=>?_)))));refine⟨_,q3.ai rfl,_,_,_,n3.ai rfl,?_⟩;have azA:=aac bP (td hs h0 jj) h3 (hrd.mod jj.mod λk hk=>(hD k hk).2) (hD.gone jj) (s1:={s with fuel:=s.fuel-1}) (s3:=s') (x1:=⟨s.bh,[],false,false⟩) (nm:=[]) (by rw[hrs];exact⟨rfl,rfl⟩) (by rw[hrs];decide) (λh=>by cases h) (f:=JF) (cap:=[.pointer (some ⟨w.heap.size,0,none⟩),.pointer (some ⟨w1.heap.size,0,none⟩)]) an8 (λw7 h7 g7=>?_)
 .refine azA.mono ?_
  rintro _ w8 ⟨rfl,h8,g8⟩;exact .inl ⟨rfl,rfl,h8,jj.trans g8⟩
 have zl:=jj.trans g7;have q7:=q3.mod g7.mod (iX h3 q3);have n7:=n3.mod g7.mod (iX h3 n3);have hn7:=hn0.mod zl.mod λk hk=>(hD k hk).2;apply aj7;refine⟨_,q7.ai rfl,_,_,_,_,_,_,_,_,_,_,_,_,_,_,_,_,_,_,n7.ai rfl,n7.ai rfl,n7.ai rfl,n7.ai rfl,n7.ai rfl,n7.ai rfl,n7.ai rfl,n7.ai rfl,?_⟩;refine(show an Pd #[.pointer (some ⟨K.hb,0,none⟩),.agg ⟨L.jg n (.slice pw n.ws.length cw) (.slice pa n.aHv.length ca) (.slice pr n.rs.length cr) (.slice po n.os.length co) (.slice pk n.ks.length ck)⟩] w7 (λe w8=>e=.returned (.tuple #[])/\bx w8 w0 K s'/\cj (Ft K w7) w7 (Ft K w8) w8)from ?_).mono ?_
 .apply ajF
  refine aO λw8 r8 s8 z8=>⟨_,r8.ai rfl,?_⟩;have h7:bx w7 w0 K {s with fuel:=s.fuel-1}:=h7;have IZ:=zl.trans (h7.gone s8);refine ax (λhb=>by have:=aQ hb;omega) (λ_=>ax (λhb=>by have:=aQ hb;omega) (λ_=>ax (λhb=>by have:=aQ hb;omega) (λ_=>ax (λhb=>by have:=aQ hb;omega) (λ_=>ax (λ_=>?_) (λhb=>absurd hk (aZ hb))))));refine⟨_,_,_,_,_,_,_,_,_,_,_,_,_,_,_,_,_,_,r8.ai rfl,r8.ai rfl,r8.ai rfl,r8.ai rfl,r8.ai rfl,r8.ai rfl,r8.ai rfl,r8.ai rfl,?_⟩;refine(h w8 w0 K D _ bP (td hs h0 IZ) (h7.still s8) (hn7.still s8) (hD.gone IZ)).mono ?_;rintro _ w9 ⟨rfl,h9,g9⟩;exact .inl ⟨rfl,rfl,h9,(h7.gone s8).trans g9⟩
 .rintro _ w8 ⟨rfl,h8,g8⟩
  exact .inl ⟨rfl,rfl,h8,g8⟩
end Go.Proofs.YtihaaoehhgmphaaGreatDoor
namespace Go.Proofs.YtihaaoehhgmphaaGreatDoor.L
open IntKind Go.RowKit Vc
set_option maxRecDepth 100000
def jT:ag:=[101,99,104,111]
def gN:List ag:=[[97],[98],[120,32,121],[46,104],[42],[99,49],[90],[97,45,98],[113,39,114],[101]]
def Hp(n:ag):ag:=[101,99,104,111,32,62,32]++single n
def aI5(n:ag):Ts:=[(0,jT),(1,aJn),(0,single n)]
def nZ(n:ag):Nd:=.mk 0 false [] [[tx false jT]] [] [([62],[tx true n])] [] []
def og:List ag->ag
 |[]=>[]
 |n::r=>Hp n++[10]++og r
def mj:List ag->Ts
 |[]=>[]
 |n::r=>aI5 n++[(2,[10])]++mj r
def Me{p:ag->Prop}(h0:p [97])(h1:p [98])(h2:p [120,32,121])(h3:p [46,104])(h4:p [42])(h5:p [99,49])(h6:p [90])(h7:p [97,45,98])(h8:p [113,39,114])(h9:p [101]):∀n∈gN,p n:=by intro n hn;simp only[gN,gE,ug,uh]at hn;rcases hn with rfl|rfl|rfl|rfl|rfl|rfl|rfl|rfl|rfl|rfl<;>assumption
def atx:∀n∈gN,toks (Hp n)=some (aI5 n):=Me (by kernel_rfl) (by kernel_rfl) (by kernel_rfl) (by kernel_rfl) (by kernel_rfl) (by kernel_rfl) (by kernel_rfl) (by kernel_rfl) (by kernel_rfl) (by kernel_rfl)
def aty:∀n∈gN,aHz 30 (single n)=.ok [tx true n]:=Me (by kernel_rfl) (by kernel_rfl) (by kernel_rfl) (by kernel_rfl) (by kernel_rfl) (by kernel_rfl) (by kernel_rfl) (by kernel_rfl) (by kernel_rfl) (by kernel_rfl)
def avI:∀n∈gN,(Hp n).length<=20:=Me (by decide) (by decide) (by decide) (by decide) (by decide) (by decide) (by decide) (by decide) (by decide) (by decide)
def adf{t:ag}{k:Ts}(ht:toks t=some k):∀{ns:List ag},(∀n∈ns,n∈gN)->toks (og ns++t)=some (mj ns++k)
 |[],_=>ht
 |n::r,h=>by have:=ato (Hp n) (og r++t) (atx n (h n (by simp))) (adf ht λx hx=>h x (by simp[hx]));simpa only[og,mj,j9]using this
def TK:∀{ns:List ag},(∀n∈ns,n∈gN)->(og ns).length<=21*ns.length
 |[],_=>aR _
 |n::r,h=>by have h1:=avI n (h n (by simp));have h2:=TK (ns:=r) λx hx=>h x (by simp[hx]);simp only[og,aHb,a_,cq];omega
def atz:aHz 30 jT=.ok [tx false jT]:=by kernel_rfl
def ap5{n:ag}(hn:n∈gN)(r:Ts):pE (aI5 n++[(2,[10])]++r)=.ok (nZ n,(2,[10])::r):=by
 have hw:=aty n hn;unfold pE;show lF mH ([],[],[]) ((0,jT)::(1,aJn)::(0,single n)::(2,[10])::r)=_
 rw[rR aJ9];have e1:mH ([],[],[]) ((0,jT)::(1,aJn)::(0,single n)::(2,[10])::r)=.ok (.inl (([[tx false jT]],[],[]),(1,aJn)::(0,single n)::(2,[10])::r)):=by unfold mH;rw[aH (by rw[show th ((0,jT)::(1,aJn)::(0,single n)::(2,[10])::r)=false by rfl];decide)];dsimp only;rw[aN rfl,aN rfl,show uW jT=none by rfl];dsimp only;rw[atz];rfl
 rw[e1];simp only[Rs.and];rw[rR aJ9];have e2:mH ([[tx false jT]],[],[]) ((1,aJn)::(0,single n)::(2,[10])::r)=.ok (.inl (([[tx false jT]],[],[([62],[tx true n])]),(2,[10])::r)):=by
  unfold mH;rw[aN (by rfl)];show(aIG _).and _=_
  unfold aIG;dsimp only;unfold nr;dsimp only;rw[aN rfl,hw];rfl
 rw[e2];simp only[Rs.and];rw[rR aJ9];rfl
def avJ{cmd:Pr Nd}{n:ag}(hn:n∈gN)(he:lV cmd)(r:Ts):aJs (pP cmd) (aI5 n++[(2,[10])]++r)=.ok (nZ n,(2,[10])::r):=by
 unfold aJs B8;rw[show cV 0 tu (aI5 n++[(2,[10])]++r)=false by rfl,aH (by decide)];have hc:pP cmd (aI5 n++[(2,[10])]++r)=pE (aI5 n++[(2,[10])]++r):=by unfold pP;rw[aH (by rw[show cV 0 aJr (aI5 n++[(2,[10])]++r)=false by rfl];decide),aH (by rw[show(cV 0 tO (aI5 n++[(2,[10])]++r)||cV 0 jR (aI5 n++[(2,[10])]++r))=false by rfl];decide)]
 rw[hc,ap5 hn];simp only[Rs.and];rw[rR (RJ (Sk he) _)];rfl
def acm{k:Ts}(hk:k.head?≠some Ec):∀ns:List ag,fG (mj ns++k)=mj ns++k
 |[]=>by
  cases k with
  |nil=>rfl
  |cons x r=>show fG (x::r)=x::r;rw[fG,aH λe=>hk (by rw[e];rfl)]
 |n::r=>rfl
def adg{cmd:Pr Nd}(he:lV cmd){k:Ts}(hk:k.head?≠some Ec):∀(ns:List ag) (acc:List Nd),(∀n∈ns,n∈gN)->lF (oO (pP cmd)) acc (mj ns++k)=lF (oO (pP cmd)) (acc++ns.map nZ) k
 |[],acc,_=>by rw[qR,aIk];rfl
 |n::r,acc,h=>by
  rw[rR (DD (Sk he))];have e:oO (pP cmd) acc (mj (n::r)++k)=.ok (.inl (acc++[nZ n],mj r++k)):=by
   unfold oO;rw[show Aq (mj (n::r)++k)=false by rfl,aH (by decide)];rw[show mj (n::r)++k=aI5 n++[(2,[10])]++(mj r++k) by rw[mj,j9],avJ (h n (by simp)) he];simp only[Rs.and];rw[aH (by rw[show cV 1 nX ((2,[10])::(mj r++k))=false by rfl];decide),aN (by rfl)];show Rs.ok (Sum.inl (acc++[nZ n],fG (mj r++k)))=_
   rw[acm hk]
  rw[e];simp only[Rs.and];rw[adg he hk r _ λx hx=>h x (by simp[hx])];simp
def acn:∀{ns:List ag},(∀n∈ns,n∈gN)->((mj ns).all λx=>!(Ar.contains x)&& !(x.2.contains 123))=true
 |[],_=>rfl
 |n::r,h=>by rw[mj,List.all_append,e_];exact⟨Me (p:=λn=>((aI5 n++[(2,[10])]).all λx=>!(Ar.contains x)&& !(x.2.contains 123))=true) (by decide) (by decide) (by decide) (by decide) (by decide) (by decide) (by decide) (by decide) (by decide) (by decide) n (h n (by simp)),acn λx hx=>h x (by simp[hx])⟩
def adh{k:Ts}(hk:yu k=true):∀{ns:List ag},(∀n∈ns,n∈gN)->yu (mj ns++k)=true
 |[],_=>hk
 |n::r,h=>by
  rw[mj,j9];show yu ((0,jT)::(1,aJn)::(0,single n)::(2,[10])::(mj r++k))=true
  have hr:=adh hk (ns:=r) λx hx=>h x (by simp[hx]);have hs:decide (((0,single n):Nat×ag)=(0,jR))=false:=fY λe=>by have e2:=fT Prod.snd e;have:(single n).head?=jR.head?:=fT List.head? e2;exact absurd this (by show¬some (39:UInt8)=some 100;decide)
  have d1:decide (((0,jT):Nat×ag)=(0,jR))=false:=by decide
  have d2:decide (((1,aJn):Nat×ag)=(0,jR))=false:=by decide
  have d3:decide (((2,[10]):Nat×ag)=(0,jR))=false:=by decide
  simp only[yu,hs,hr,d1,d2,d3,Kg,Bool.not_false,Br]
def Sz{t:ag}{k:Ts}{l:List Nd}{ns:List ag}(hns:∀n∈ns,n∈gN)(hl:ns.length<=10)(ht:toks t=some k)(htl:t.length<=100)(hk:k.head?≠some Ec)(hp:(k.all λx=>!(Ar.contains x)&& !(x.2.contains 123))=true)(hd:yu k=true)
  (hf:∀acc,lF (oO (dB 30).1) acc k=.ok (nv (acc++l),[])):pK (og ns++t)=(nv (ns.map nZ++l),0):=by
 have hts:=adf ht hns;have hlen:=TK hns;have hr:iN (og ns++t)=(mj ns++k,0):=by unfold iN;rw[aH (by rw[aHb];omega),hts]
 have hpl:B2 (og ns++t)=true:=by unfold B2;rw[hr,List.all_append,acn hns,hp,adh hd hns];rfl
 have hs:DU (mj ns++k)=.ok (nv (ns.map nZ++l)):=by unfold DU uM;rw[acm hk];have:=adg (cmd:=(dB 29).1) (aKi 29).1 hk ns [] hns;rw[show(dB 30).1=pP (dB 29).1 from rfl]at hf⊢;rw[this,hf];simp[Rs.and]
 unfold pK;rw[hpl,aH (by decide),hr,aN rfl];dsimp only;rw[hs]
def ap6{ns:List ag}(hns:∀n∈ns,n∈gN)(hl:ns.length<=10):pK (og ns)=(nv (ns.map nZ),0):=by
 have:=Sz (t:=[]) (k:=[]) (l:=[]) hns hl (by kernel_rfl) (by decide) (by decide) rfl rfl λacc=>by rw[rR (DD (aKi 30).1),aIk];rfl
 rwa[aIk,aIk]at this
def C5:ag:=[108,115]
def Oq:Nd:=.mk 0 false [] [[tx false C5]] [] [] [] []
def avK{ns:List ag}(hns:∀n∈ns,n∈gN)(hl:ns.length<=10):pK (og ns++C5)=(nv (ns.map nZ++[Oq]),0):=by
 refine Sz (k:=[(0,C5)]) hns hl (by kernel_rfl) (by decide) (by decide) (by decide) (by decide) λacc=>?_;have h:aJs (dB 30).1 [(0,C5)]=.ok (Oq,[]):=by kernel_rfl
 rw[rR (DD (aKi 30).1)];unfold oO;rw[show Aq [(0,C5)]=false by rfl,aH (by decide),h];rfl
def aBm:ag:=[102,111,114,32,102,32,105,110,32,42,59,32,100,111,32,101,99,104,111,32,34,36,102,34,59,32,100,111,110,101]
def Cb:Nd:=.mk 0 false [] [[tx false jT],[.mk 1 true [] [102] [] []]] [] [] [] []
def Ib:Nd:=.mk 8 false [102] [[tx false [42]]] [] [] [rB] [nv [Cb]]
def VC:Ts:=[(0,aJr),(0,[102]),(0,rB),(0,[42]),(1,nX),(0,tO),(0,jT),(0,[34,36,102,34]),(1,nX),(0,jR)]
def atA{ns:List ag}(hns:∀n∈ns,n∈gN)(hl:ns.length<=10):pK (og ns++aBm)=(nv (ns.map nZ++[Ib]),0):=by
 refine Sz (k:=VC) hns hl (by kernel_rfl) (by decide) (by decide) (by decide) (by decide) λacc=>?_;have h:aJs (dB 30).1 VC=.ok (Ib,[]):=by kernel_rfl
 rw[rR (DD (aKi 30).1)];unfold oO;rw[show Aq VC=false by rfl,aH (by decide),h];rfl
end Go.Proofs.YtihaaoehhgmphaaGreatDoor.L
namespace Go.Proofs.YtihaaoehhgmphaaGreatDoor
open IntKind Go.RowKit Vc
set_option maxRecDepth 100000
def gB(n:ag):Bool:=decide (DV n=[n])&&(decide (n≠[])&&(decide (n.length<=5)&&(!Lib.hasSuffix n [47]&&(decide (n≠[46,46])&&(decide (n≠[46])&&(decide (Lib.lastIndexByte (S (47::n)) 47=0)&&Az (true,n)))))))
def azB:L.gN.all gB=true:=by kernel_rfl
structure GOk(n:ag):Prop where
 one:ny n n
 dot:n≠[46]
 last:Lib.lastIndexByte (S (47::n)) 47=0
 lit:Az (true,n)=true
 len:n.length<=5
def AL{n:ag}(h:n∈L.gN):GOk n:=by have:=nO.1 azB n h;simp only[gB,e_,nk,aJ3]at this;obtain⟨h1,h2,h3,h4,h5,h6,h7,h8⟩:=this;exact⟨⟨h1,h2,by omega,by omega,h4,h5⟩,h6,h7,h8,h3⟩
def adi:∀(T:Tree) (p:ag) (e:mR),fU (aH3 T p e) p=e
 |[],p,e=>by simp[aH3,fU]
 |(q,x)::r,p,e=>by
  unfold aH3;split
  .simp[fU]
  .rename_i h
   unfold fU;rw[aH h];exact adi r p e
def aKr(T:Tree)(n:ag):Tree:=ij (ij T n [] false) n [10] true
def arC{T:Tree}{n x:ag}(h:x∈nU (aKr T n)):x=n\/x∈nU T:=by
 obtain⟨y,hy,rfl⟩:=dM.1 h;rcases BI hy with rfl|hy
 .exact .inl rfl
 .rcases BI hy with rfl|hy
  .exact .inl rfl
  .exact .inr (dM.2 ⟨y,hy,rfl⟩)
def avL(T:Tree)(n:ag):(aKr T n).length<=T.length+2:=kf (BJ _ _ _) (Nat.succ_le_succ (BJ _ _ _))
def atB{T:Tree}(h:gu T)(n:ag)(hl:T.length<40):gu (aKr T n):=(h.put _ _ (by omega)).put _ _ (P4 (BJ _ _ _) (by omega))
def avM{s:Sh}{n:ag}(h:WY s 3)(hn:n∈L.gN)(hl:s.T.length<40):mY (L.nZ n) s (H_ s 0 (aKr s.T n)):=by
 have g:=AL hn;have hb:=h.b6;have hnl:=g.len;have hj:F.joined false [⟨1,n⟩]=n:=R9 true n;have hR:aJd (L.nZ n).rs {s with fuel:=s.fuel-1,last:=-1} ⟨s.bh,[],false,false⟩ {s with fuel:=s.fuel-1,last:=-1,T:=ij s.T n [] false,b6:=s.b6-1} ⟨s.bh,n,false,true⟩:=by
  refine⟨[⟨1,n⟩],n,?_,?_,(by show 0<s.b6;omega),.inr ⟨rfl,g.dot,g.last,(by show s.T.length<50;omega),rfl,?_⟩⟩
  .show AJ s.V _ (.ok (_,s.V))
   rw[h.vars];exact S7 (q:=true) (by omega)
  .rw[hj]
   exact g.one
  .rw[hj]
 have hT:aIN (ij s.T n [] false) [L.jT] s.bh 0 [10] [] (ij s.T n [] false):=Lm (fn:=aJ6) (by decide) (by decide) (by decide) (Ll (args:=[]) s.bh (by decide) (by decide)) _;have hF:gu (ij s.T n [] false):=h.mU.put _ _ (by omega);have hx:aKo (ij s.T n [] false) n [10]:=by refine⟨?_,P4 (BJ _ _ _) (by omega)⟩;rw[show fU (ij s.T n [] false) (47::n)=⟨1,6,[]⟩from adi _ _ _];decide
 have:=TI (n:=L.nZ n) (l:=[(false,L.jT)]) (s:=s) (s2:={s with fuel:=s.fuel-1,last:=-1,T:=ij s.T n [] false,b6:=s.b6-1}) (x1:=⟨s.bh,n,false,true⟩) (nm:=n) rfl h.way h.fuel rfl rfl (by kernel_rfl) rfl h.vars (by decide) (by show 1<=10000;decide) (by rw[h.err];decide) (by decide) hR hT hF (by show 0<s.b6-1;omega) h.bh h.vars (by have:=h.out;show s.out.length+1<=_;omega) (by show s.err.length<=_;rw[h.err];decide) (λ_=>⟨by show 1<s.b6-1;omega,g.one,g.dot,g.last,hx⟩);have e:s.b6-1-1-1=s.b6-3:=by omega
 simpa[Ax,H_,e,aKr]using this
structure Rg(s:Sh)(k:Nat):Prop where
 way:s.way=0
 st:s.st=0
 loops:s.loops=0
 vars:s.V=[]
 err:s.err=[]
 out:s.out=[]
 bh:s.bh=[]
 fuel:119<=s.fuel+k
 b6:1000<=s.b6+3*k
 mU:gu s.T
 sJ:∀x∈nU s.T,x∈L.gN
 len:s.T.length<=2*k
def adj:∀(ns:List ag) {s:Sh} {k:Nat},(∀n∈ns,n∈L.gN)->k+ns.length<=10->Rg s k->∃s',aJj (ns.map L.nZ) s s'/\Rg s' (k+ns.length)
 |[],s,k,_,_,h=>⟨s,rfl,h⟩
 |n::r,s,k,hn,hk,h=>by simp only[a_]at hk⊢;have h1:=h.fuel;have h2:=h.b6;have h3:=h.len;have hc:=avM (s:=s) (n:=n) ⟨h.way,by omega,h.vars,h.err,by omega,by rw[h.bh];decide,h.mU,by rw[h.out];decide⟩ (hn n (by simp)) (by omega);have h4:=avL s.T n;obtain⟨s',hx,hg⟩:=adj r (s:=H_ s 0 (aKr s.T n)) (k:=k+1) (λx hx=>hn x (by simp[hx])) (by omega) ⟨h.way,rfl,h.loops,h.vars,h.err,h.out,h.bh,by show 119<=s.fuel-1+(k+1);omega,by show 1000<=s.b6-3+3*(k+1);omega,atB h.mU n (by omega),λx hx=>(arC hx).elim (λe=>e▸hn n (by simp)) (h.sJ x),by show(aKr s.T n).length<=2*(k+1);omega⟩;exact⟨s',⟨_,hc,hx⟩,by rw[show k+(r.length+1)=k+1+r.length by omega];exact hg⟩
def atC{ns:List ag}(hn:∀n∈ns,n∈L.gN)(hl:ns.length<=10):∃s',Rg s' ns.length/\∀(l:List L.Nd) (s2:Sh),aJj l s' s2->l.length<=5->mY (L.nv (ns.map L.nZ++l)) (uF [] [] 120) s2:=by
 obtain⟨s',hx,hg⟩:=adj ns (s:={uF [] [] 120 with fuel:=119}) (k:=0) hn (by omega) ⟨rfl,rfl,rfl,rfl,rfl,rfl,rfl,by decide,by decide,gu.nil,λx hx=>(by cases hx),aR _⟩;rw[cL]at hg;refine⟨s',hg,λl s2 h h5=>?_⟩;refine Eh (.inl rfl) rfl (by decide) ?_;refine TF (n:=L.nv (ns.map L.nZ++l)) (s:={uF [] [] 120 with fuel:=119}) ?_ ?_
 .have e:(if(L.nv (ns.map L.nZ++l)).ks.length=0 then{({uF [] [] 120 with fuel:=119}:Sh)with st:=0}else({uF [] [] 120 with fuel:=119}:Sh))={uF [] [] 120 with fuel:=119}:=by split<;>rfl
  rw[e];exact hx.append h
 .show(ns.map L.nZ++l).length<=_
  rw[aHb,ke];omega
def Rg.good{s:Sh}{k:Nat}(h:Rg s k):MF s.T:=⟨h.mU,λnm hm=>⟨(AL (h.sJ nm hm)).one,(AL (h.sJ nm hm)).dot⟩⟩
def afS{T:Tree}(h:∀x∈nU T,x∈L.gN):∀x∈fM T,x∈L.gN:=λx hx=>h x (G2.1 (FN.1 hx).1)
def ad9(T:Tree):(fM T).length<=T.length:=by have:(fM T).length<=(eR T).length:=Pp _ _;rwa[BL]at this
def Uf:∀{l:List ag},(∀x∈l,x∈L.gN)->total l<=6*l.length
 |[],_=>aR _
 |x::r,h=>by have h1:=(AL (h x (by simp))).len;have h2:=Uf (l:=r) λy hy=>h y (by simp[hy]);rw[Bz,a_];omega
def ayw{s:Sh}{k:Nat}(h:Rg s k)(hk:k<=10):∃s2,aJj [L.Oq] s s2/\s2.out=k_ (fM s.T):=by have h1:=h.fuel;have h2:=h.b6;have h3:=h.len;have h4:=ad9 s.T;have h5:=Uf (afS h.sJ);rw[<-adb]at h5;have ht:aIN s.T [L.C5] s.bh 0 (k_ (fM s.T)) [] s.T:=ac8 (fn:=FZ) (by decide) (ayu _ _ _);have:=aK1 (l:=[(false,L.C5)]) (s:=s) ⟨h.way,by omega,h.vars,h.err,by omega,by rw[h.bh];decide,h.mU,by rw[h.out];decide⟩ (by kernel_rfl) rfl (by decide) (by decide) ht h.mU (by omega);exact⟨_,⟨_,this,rfl⟩,by show s.out++_=_;rw[h.out];rfl⟩
abbrev Vf(v:ag):List A.Vr:=[⟨[102],v,false,false⟩]
def azC{v:ag}(hl:v.length<=5):pX (Vf v):=⟨by simp[A.aIx],λx hx=>by obtain rfl:=jb.1 hx;show v.length<=_;omega⟩
def Ug(v:ag):sA (Vf v)=[32,9,10]:=rfl
def adk{T:Tree}{x t:ag}{p:L.Pt}{sg:F.Sg}(hx:x.length<=5)(hk:p.k≠2)(ht:p.t.length<=10)(hr:tJ [p] (Vf x)=some (.ok ([sg],Vf x)))(hs:sg.text.length<=10)(hf:(F.nR [32,9,10] [sg]).map P.plain=[t])(hp:((F.nR [32,9,10] [sg]).all λx=>!P.oF x&&decide (x.length<1000000))=true):Aw T (Vf x) [p] [t] (Vf x) 0:=by
 refine abb (gs:=[sg]) ⟨azC hx,?_,(by show 1<=900;decide),λy hy=>?_,hr,(by show 1<=1000;decide),?_⟩ (by rw[Ug];decide) rfl (λy hy=>?_) (by rw[Ug];exact hf) (by show 1<=1000;decide)
 .show 1+(p.t.length+1+0)<=50000
  omega
 .obtain rfl:=jb.1 hy
  exact hk
 .show(2*sg.text.length+1+0:Nat)<=500000
  omega
 .rw[Ug]at hy
  have:=nO.1 hp y hy;simpa using this
def atD{T:Tree}{x:ag}(hx:x∈L.gN):yJ T L.Cb.ws (Vf x) [L.jT,x] (Vf x) 0:=by have g:=AL hx;have hl:=g.len;have ho:=g.lit;simp only[Az,e_,nk]at ho;refine⟨Vf x,[L.jT],0,adk (sg:=⟨0,L.jT⟩) hl (by decide) (by decide) rfl (by decide) (by kernel_rfl) (by kernel_rfl),.inr ⟨rfl,[x],⟨Vf x,[x],0,adk (sg:=⟨1,x⟩) hl (by decide) (by decide) rfl (by show x.length<=10;omega) ho.2.1 ho.2.2,.inr ⟨rfl,[],⟨rfl,rfl,rfl⟩,rfl⟩⟩,rfl⟩⟩
structure Rl(s:Sh)(k:Nat)(T:Tree)(o:ag):Prop where
 way:s.way=0
 st:s.st=0
 loops:s.loops=1
 vars:s.V=[]\/∃y,s.V=Vf y
 err:s.err=[]
 out:s.out=o
 bh:s.bh=[]
 fuel:2*k<=s.fuel
 b6:k<=s.b6
 tre:s.T=T
def azD{V:List A.Vr}(h:V=[]\/∃y,V=Vf y)(x:ag):A.yC V [102] x=(Vf x,0)/\A.aIx V/\V.length<=1:=by
 rcases h with rfl|⟨y,rfl⟩
 .exact⟨rfl,by simp[A.aIx],dU _⟩
 .exact⟨rfl,by simp[A.aIx],aR _⟩
def aKy(s:Sh)(x:ag):Sh:={s with V:=Vf x,fuel:=s.fuel-1-1,last:=-1,b6:=s.b6-1,st:=0,out:=s.out++(x++[10])}
def avN{s:Sh}{x:ag}(hx:x∈L.gN)(hw:s.way=0)(hf:1<s.fuel)(he:s.err=[])(hi:s.bh=[])(hb:0<s.b6)(hT:gu s.T)(ho:s.out.length<=900000000):mY (L.nv [L.Cb]) {s with V:=Vf x} (aKy s x):=by
 have hl:=(AL hx).len;have hj:Lib.join [x] [32]=x:=by simp[Lib.join]
 have ht:aIN s.T [L.jT,x] s.bh 0 (Lib.join [x] [32]++[10]) [] s.T:=Lm (fn:=aJ6) (by decide) (by decide) (by decide) (Ll (args:=[x]) s.bh (by simp) (by rw[hj];omega)) s.T;rw[hj]at ht;have hfz:dF [L.jT,x]<=100:=by
  have:dF [L.jT,x]=L.jT.length+1+(x.length+1+0):=by simp[dF]
  rw[this];show 4+1+_<=_
  omega
 have hd:=ab4 (s:={s with V:=Vf x,fuel:=s.fuel-1-1}) (n:=L.Cb) (f:=[L.jT,x]) (V1:=Vf x) (s2:={s with V:=Vf x,fuel:=s.fuel-1-1,last:=-1}) (s3:=aKy s x) (x1:=⟨s.bh,[],false,false⟩) (nm:=[]) (atD hx) (by omega) (by show 2<=10000;decide) (by show 0<=10000;decide) (by show s.err.length<=_;rw[he];decide) ⟨rfl,rfl⟩ (by have:=ab3 (s:={s with V:=Vf x,fuel:=s.fuel-1-1,last:=-1}) (f0:=L.jT) (fr:=[x]) (by decide) (by decide) ht hT hb (by omega) (by show s.bh.length<=_;rw[hi];decide) (by show 1<900000;decide) (λv hv=>by obtain rfl:=jb.1 hv;rfl) (by show s.out.length+(x++[10]).length<=_;simp;omega) (by show s.err.length+0<=_;rw[he];decide);rw[aIk]at this;exact this) (λh=>by cases h);refine Eh (.inl rfl) hw (by show 0<s.fuel;omega) ?_;refine TF (n:=L.nv [L.Cb]) (s:={s with V:=Vf x,fuel:=s.fuel-1}) ⟨aKy s x,?_,rfl⟩ (by show 1<=100000;decide);exact Eh (.inr (.inr (.inr rfl))) hw (by show 0<s.fuel-1;omega) hd
def adl{T:Tree}(hT:gu T):∀(l:List ag) {s:Sh} {o:ag},(∀x∈l,x∈L.gN)->Rl s l.length T o->o.length+1001*l.length<=900000000->∃s',MG [102] (L.nv [L.Cb]) l s s'/\Rl s' 0 T (o++k_ l)
 |[],s,o,_,h,_=>⟨s,rfl,by rw[show o++k_ []=o from aIk o];exact h⟩
 |x::r,s,o,hx,h,hl=>by obtain⟨e1,e2,e3⟩:=azD h.vars x;have g:=(AL (hx x (by simp))).len;have h1:=h.fuel;have h2:=h.b6;simp only[a_]at h1 h2 hl;have hc:=avN (s:=s) (hx x (by simp)) h.way (by omega) h.err h.bh (by omega) (by rw[h.tre];exact hT) (by rw[h.out];omega);obtain⟨s',hs,hr⟩:=adl hT r (s:=aKy s x) (o:=o++(x++[10])) (λy hy=>hx y (by simp[hy])) ⟨h.way,rfl,h.loops,.inr ⟨x,rfl⟩,h.err,by show s.out++_=_;rw[h.out],h.bh,by show _<=s.fuel-1-1;omega,by show _<=s.b6-1;omega,h.tre⟩ (by simp;omega);refine⟨s',⟨e2,by omega,by rw[e1],aKy s x,by rw[e1];exact hc,h.way,hs⟩,?_⟩;rw[show o++k_ (x::r)=o++(x++[10])++k_ r by simp[k_]];exact hr
def axb{s:Sh}{k:Nat}(h:Rg s k)(hk:k<=10):∃s2,aJj [L.Ib] s s2/\s2.st=0/\s2.out=k_ (pM s.T)/\s2.err=[]:=by
 have h1:=h.fuel;have h2:=h.b6;have h3:=h.len;have h4:=ad9 s.T;have hg:∀x∈pM s.T,x∈L.gN:=λx hx=>by
  unfold pM at hx;split at hx
  .obtain rfl:=jb.1 hx;decide
  .exact afS h.sJ x hx
 have hn:(pM s.T).length<=20:=by
  unfold pM;split
  .decide
  .omega
 have hz:dF (pM s.T)<=10000:=by have h5:=Uf hg;rw[Lh]at h5;omega
 have hW:Aw s.T [] [⟨0,false,[42],[],[],[]⟩] (pM s.T) [] 0:=by
  have hf:F.nR (sA []) [⟨0,[42]⟩]=[[42]]:=by kernel_rfl
  refine .inl ⟨rfl,[⟨0,[42]⟩],S7 (q:=false) (by decide),by decide,?_,by omega,by rw[hf];decide⟩;rw[hf];exact⟨pM s.T,[],atv h.good,rfl,by simp⟩
 obtain⟨s3,he,hr⟩:=adl h.mU (pM s.T) (s:={s with fuel:=s.fuel-1,V:=[],st:=0,loops:=1}) (o:=[]) hg ⟨h.way,rfl,rfl,.inl rfl,h.err,h.out,h.bh,by show _<=s.fuel-1;omega,by show _<=s.b6;omega,rfl⟩ (by simp;omega);have hd:=axa (n:=L.Ib) (kd:=L.nv [L.Cb]) (f:=pM s.T) (V1:=[]) (s:={s with fuel:=s.fuel-1}) (s3:=s3) rfl (by decide) (by show yJ s.T [[⟨0,false,[42],[],[],[]⟩]] s.V _ _ _;rw[h.vars];exact⟨[],_,0,hW,.inr ⟨rfl,[],⟨rfl,rfl,rfl⟩,by simp⟩⟩) (by omega) (by show 1<=10000;decide) (by show s.err.length<=_;rw[h.err];decide) h.loops he hr.loops (by show 1<=10000;decide);exact⟨_,⟨_,ayv rfl rfl h.way (by omega) hd,rfl⟩,hr.st,hr.out,hr.err⟩
end Go.Proofs.YtihaaoehhgmphaaGreatDoor
namespace Go.Proofs.YtihaaoehhgmphaaGreatDoor
open IntKind Go.RowKit Vc
variable{w:World}
def Mod.azE{w w':World}{a:Addr}{v:Value}(hm:Still w w')(h:w.cell? a=some v):w'.cell? a=some v:=
 (World.cell?_of_block (hm.block _ (World.block_lt_of_cell? _ _ h) (λh=>h))).trans h
def Ii(w:World)(l:Option Addr)(n:Nat):Prop:=∀i,i<n->∃(a:Addr) (v:Nat),l=some a/\v<256/\w.cell? (a.add (i*1))=some (.int .u8 (v:Int))
def Ii.still{w w':World}{l:Option Addr}{n:Nat}(h:Ii w l n)(hm:Still w w'):Ii w' l n:=λi hi=>by obtain⟨a,v,h1,h2,h3⟩:=h i hi;exact⟨a,v,h1,h2,Mod.azE hm h3⟩
end Go.Proofs.YtihaaoehhgmphaaGreatDoor
namespace Go.Proofs.YtihaaoehhgmphaaGreatDoor
open IntKind Go.RowKit Vc
set_option maxRecDepth 100000
variable{w w0:World}
def azF(st:Int)(out err:ag)(v:Value):Prop:=∃(p1:Option Addr) (n1 c1:Nat) (cw:ag) (p2:Option Addr) (n2 c2:Nat) (p3:Option Addr) (n3 c3:Nat) (i1 i2 i3 i4:Int),v=.agg #[.int .i64 st,.string (S out),.string (S err),.slice p1 n1 c1,.string (S cw),.slice p2 n2 c2,.slice p3 n3 c3,.int .i64 i1,.int .i64 i2,.int .i64 i3,.int .i64 i4]
def S8(bP:aHx w){script bh:ag}{n:L.Nd}(hp:L.pK script=(n,0)){s':Sh}(hex:mY n (uF [] bh 120) s'):
  an Gh #[.string (S script),.string (S bh)] w (λe w'=>∃a g v,e=.returned (.tuple #[.pointer (some ⟨a,0,none⟩),v])/\azF s'.st s'.out s'.err v/\cv w' w.heap.size a g none 0 s'.T/\gu s'.T/\Still w w'):=by
 apply aod;refine aO λw1 r1 s1 z1=>Sn.mono ?_;rintro _ w2 ⟨rfl,hst,s2,_⟩;refine .inl ⟨_,rfl,ax (λh=>by cases h) (λ_=>?_)⟩;refine(ac7 (bP.still s1) s2 hst gu.nil script bh (fuel:=120) (by decide) hp hex).mono ?_;rintro _ w4 ⟨⟨p1,n1,c1,cw,p2,n2,c2,p3,n3,c3,i1,i2,i3,i4,rfl⟩,h4,hT,s4,z4⟩;have r4:=r1.still s4;refine .inl ⟨_,_,_,_,_,_,_,_,_,_,_,_,_,_,_,_,_,rfl,?_⟩;refine bF (g:=w.heap.size) (o:=0) r4 λw5 r5 m5 z5=>?_;have hz:w.heap.size<w1.heap.size:=by omega
 refine⟨_,_,_,_,_,_,_,_,_,_,_,_,_,_,_,_,_,r5.ai rfl,r5.ai rfl,r5.ai rfl,r5.ai rfl,r5.ai rfl,r5.ai rfl,r5.ai rfl,r5.ai rfl,r5.ai rfl,r5.ai rfl,r5.ai rfl,?_⟩;refine⟨_,w1.heap.size,_,rfl,⟨_,_,_,_,_,_,_,_,_,_,_,_,_,_,rfl⟩,?_,hT,(s1.trans s4).box (aR _) m5⟩;have h5:=h4.mod m5 λk hk e=>by have:=(h4.aHO hk).1;omega
 exact⟨h5.top,h5.now,h5.cB,⟨by have:=h5.low.1;omega,by have:=h5.low.2;omega⟩,λt ht=>by cases ht⟩
def atE(a n:Nat):yA (λ_=>0) a n=List.replicate n 0:=List.eq_replicate_iff.2 ⟨by simp,λb hb=>by simp only[yA,dM]at hb;obtain⟨_,_,rfl⟩:=hb;rfl⟩
def arD:an QZ #[.string (S [])] w (λe w'=>e=.returned (.tuple #[.slice none 0 0,.int .i64 0])/\w'=w):=by apply amu;refine⟨λs p n c w1=>s=[]/\p=none/\n=0/\c=0/\w1=w,λ_ _ _ _ _=>0,⟨rfl,rfl,rfl,rfl,rfl⟩,?_⟩;rintro _ _ _ _ _ w1 ⟨rfl,rfl,rfl,rfl,rfl⟩;exact ax (λh=>by simp at h) (λ_=>⟨rfl,rfl⟩)
def arE:an Q1 #[.string (S (List.replicate 64 0))] w (λe w'=>e=.returned (.tuple #[.int .i64 0,.bool false])/\w'=w):=by apply amx;refine(Tryz.strings_TrimRight_one (S (List.replicate 64 0)) 0 (by decide) w (by show List.length _<=_;decide)).mono ?_;rintro _ w1 ⟨rfl,rfl⟩;refine .inl ⟨[],rfl,(Tryz.strings_CutPrefix (S []) (S [49]) w1).mono ?_⟩;rintro _ w2 ⟨rfl,rfl⟩;refine .inl ⟨[],false,rfl,arD.mono ?_⟩;rintro _ w3 ⟨rfl,rfl⟩;exact .inl ⟨_,_,_,_,rfl,ax (λ_=>⟨rfl,rfl⟩) (λh=>by cases h)⟩
def arF{g b a n:Nat}{v:Value}(h0:0<n)(d:D.aJS w g b (D.St.new n))(hr:Row w a 253 ⟨[.pointer (some ⟨g,0,none⟩),v,.int .i64 0]⟩):
  an Pq #[.pointer (some ⟨a,0,none⟩)] w (λe w'=>e=.returned (.tuple #[.string (S []),.bool false])/\Still w w'):=by
 apply ajU;have sD:Still w w.drew:=(Still.refl w).cG;refine⟨λwq=>Still w wq,sD,_,λwq hq=>(hr.still hq).ai rfl,_,λwq hq=>(hr.still hq).ai rfl,?_⟩;refine(D.anj (d.mod sD (λh=>h) (λh=>h)) 0).mono ?_;rintro _ w1 ⟨rfl,rfl⟩;rw[aN ⟨Int.le_refl _,by show(0:Int)<(n:Int);omega⟩,show yA (D.St.new n).F (Int.toNat 0*64) 64=List.replicate 64 0 from atE _ _];refine .inl ⟨_,_,rfl,arE.mono ?_⟩;rintro _ w2 ⟨rfl,rfl⟩;have Ot:Still w w.drew.drew:=sD.cG;exact .inl ⟨_,_,rfl,λwq=>Still w wq,Ot,ax (λ_=>⟨Ot,Ot,rfl,Ot⟩) (λh=>by cases h)⟩
def ap7{g b n:Nat}(h0:0<n)(d:D.aJS w g b (D.St.new n)):an QY #[.pointer (some ⟨g,0,none⟩)] w (λe w'=>∃a,e=.returned (.pointer (some ⟨a,0,none⟩))/\w'.cell? ⟨a,1,none⟩=some (.slice none 0 0)/\Still w w'):=by apply ams;refine aO λw1 r1 s1 z1=>⟨λw2=>w2=w1,λ_=>0,rfl,?_⟩;rintro _ w2 rfl;refine(arF h0 (d.mod s1 (λh=>h) (λh=>h)) r1).mono ?_;rintro _ w3 ⟨rfl,s3⟩;exact .inl ⟨_,_,rfl,ax (λ_=>⟨_,rfl,(r1.still s3).ai rfl,s1.trans s3⟩) (λh=>by cases h)⟩
def ap8{g b n:Nat}(h0:0<n)(d:D.aJS w g b (D.St.new n)):an aKT #[.pointer (some ⟨g,0,none⟩)] w (λe w'=>(∃q,e=.returned (.pointer q))/\Still w w'):=by
 apply am7;refine(ap7 h0 d).mono ?_;rintro _ w1 ⟨a,rfl,hc,s1⟩;refine .inl ⟨_,rfl,aO λw2 r2 s2 z2=>⟨_,r2.ai rfl,?_⟩⟩;refine(show an O4 #[.pointer (some ⟨a,0,none⟩)] w2 (λe w'=>e=.returned (.slice none 0 0)/\w'=w2)from ?_).mono ?_
 .refine ajv _ _ _ ⟨_,_,_,s2.cell hc,?_⟩
  refine(ajn _ _ _ w2 (λe w'=>e=.returned (.slice none 0 0)/\w'=w2) (ax (λ_=>⟨rfl,rfl⟩) (λh=>by cases h))).mono ?_;rintro _ _ ⟨rfl,rfl⟩;exact .inl ⟨_,_,_,rfl,rfl,rfl⟩
 rintro _ w3 ⟨rfl,rfl⟩;refine .inl ⟨_,_,_,rfl,λx w4=>x=0/\w4=w3,λ_ _=>0,⟨rfl,rfl⟩,?_⟩;rintro _ _ w4 ⟨rfl,rfl⟩;exact ax (λh=>by simp at h) (λ_=>⟨⟨_,rfl⟩,s1.trans s2⟩)
def arG{n:Int}(h1:1<=n)(h2:n<=4096):an Rj #[.int .i64 n] w (λe w'=>(∃a,e=.returned (.tuple #[.pointer (some a),.int .i64 0]))/\Still w w'):=by apply am3;refine(D.anA h1 h2).mono ?_;rintro _ w1 ⟨g,b,rfl,s1,lg,lb,d⟩;refine .inl ⟨_,_,rfl,ax (λh=>by simp at h) (λ_=>?_)⟩;refine Sn.mono ?_;rintro _ w2 ⟨rfl,_,s2,_⟩;refine .inl ⟨_,rfl,(ap8 (n:=n.toNat) (by omega) (d.mod s2 (λh=>h) (λh=>h))).mono ?_⟩;rintro _ w3 ⟨⟨q,rfl⟩,s3⟩;refine .inl ⟨_,rfl,aO λw4 r4 s4 z4=>⟨⟨_,rfl⟩,(((show Still w w1 from s1).trans s2).trans s3).trans s4⟩⟩
end Go.Proofs.YtihaaoehhgmphaaGreatDoor
namespace Go.Proofs.YtihaaoehhgmphaaGreatDoor.A
open IntKind Go.RowKit Vc
variable{w:World}
def aBn(op:ag):Int:=if op=[124,124]then 5 else if op=[38,38]then 4 else 3
abbrev uQ(k n:Int)(op x:ag)(kids:Value):List Value:=[.int .i64 k,.int .i64 n,.string (S op),.string (S x),kids]
abbrev zu(b:Nat):Value:=.pointer (some ⟨b,0,none⟩)
abbrev kids(c n:Nat):Value:=.slice (some ⟨c,0,none⟩) n n
def hO(w:World):Tm->Nat->Prop
 |.num n,b=>Row w b 147 ⟨uQ 0 n [] [] (.slice none 0 0)⟩
 |.sJ x,b=>Row w b 147 ⟨uQ 1 0 [] x (.slice none 0 0)⟩
 |.IB op t,b=>∃c k,Row w b 147 ⟨uQ 2 0 op [] (kids c 1)⟩/\Row w c 74 ⟨[zu k]⟩/\hO w t k
 |.bin op x y,b=>∃c k1 k2,Row w b 147 ⟨uQ (aBn op) 0 op [] (kids c 2)⟩/\Row w c 74 ⟨[zu k1,zu k2]⟩/\hO w x k1/\hO w y k2
 |.aJQ t x y,b=>∃c k0 k1 k2,Row w b 147 ⟨uQ 6 0 [] [] (kids c 3)⟩/\Row w c 74 ⟨[zu k0,zu k1,zu k2]⟩/\hO w t k0/\hO w x k1/\hO w y k2
 |.set x op t,b=>∃c k,Row w b 147 ⟨uQ 7 0 op x (kids c 1)⟩/\Row w c 74 ⟨[zu k]⟩/\hO w t k
def hO.mod{S:Nat->Prop}{w':World}(hm:Mod S w w')(hS:∀b t cs,(t=147\/t=74)->Row w b t cs->¬S b):∀{t:Tm} {b:Nat},hO w t b->hO w' t b
 |.num _,b,h=>Row.mod h hm (hS _ _ _ (.inl rfl) h)
 |.sJ _,b,h=>Row.mod h hm (hS _ _ _ (.inl rfl) h)
 |.IB _ _,b,⟨c,k,h1,h2,h3⟩=>⟨c,k,h1.mod hm (hS _ _ _ (.inl rfl) h1),h2.mod hm (hS _ _ _ (.inr rfl) h2),hO.mod hm hS h3⟩
 |.bin _ _ _,b,⟨c,k1,k2,h1,h2,h3,h4⟩=>⟨c,k1,k2,h1.mod hm (hS _ _ _ (.inl rfl) h1),h2.mod hm (hS _ _ _ (.inr rfl) h2),hO.mod hm hS h3,hO.mod hm hS h4⟩
 |.aJQ _ _ _,b,⟨c,k0,k1,k2,h1,h2,h3,h4,h5⟩=>⟨c,k0,k1,k2,h1.mod hm (hS _ _ _ (.inl rfl) h1),h2.mod hm (hS _ _ _ (.inr rfl) h2),hO.mod hm hS h3,hO.mod hm hS h4,hO.mod hm hS h5⟩
 |.set _ _ _,b,⟨c,k,h1,h2,h3⟩=>⟨c,k,h1.mod hm (hS _ _ _ (.inl rfl) h1),h2.mod hm (hS _ _ _ (.inr rfl) h2),hO.mod hm hS h3⟩
def hO.still{w':World}{t:Tm}{b:Nat}(h:hO w t b)(hm:Still w w'):hO w' t b:=h.mod hm (λ_ _ _ _ _ h=>h)
def hO.far{w':World}{t:Tm}{b g:Nat}{tg:TypeId}{cs:Array Value}(h:hO w t b)(hg:Row w g tg cs)(h1:tg≠147)(h2:tg≠74)(hm:Mod (λk=>k=g) w w'):hO w' t b:=by
 refine h.mod hm (λb t cs ht hr e=>?_);subst e;rcases ht with rfl|rfl
 .exact hr.ne hg h1.symm rfl
 .exact hr.ne hg h2.symm rfl
def _root_.Go.Proofs.YtihaaoehhgmphaaGreatDoor.Row.aBo{w':World}{b g:Nat}{t tg:TypeId}{cs cs':Array Value}(h:Row w b t cs)(hg:Row w g tg cs')(hne:t≠tg)(hm:Mod (λk=>k=g) w w'):Row w' b t cs:=h.mod hm (h.ne hg hne)
end Go.Proofs.YtihaaoehhgmphaaGreatDoor.A
namespace Go.Proofs.YtihaaoehhgmphaaGreatDoor.A
open IntKind Go.RowKit Vc
def WS.drew{w:World}{g:Nat}{V:List Vr}(h:WS w g V):WS w.drew g V:=h.still (Still.refl _).cG
def WS.tree{w w':World}{g b:Nat}{V:List Vr}{t:Tm}(h:WS w g V)(ht:hO w t b)(hm:Mod (λk=>k=g) w w'):hO w' t b:=by obtain⟨⟨p,C,h1,_⟩,_,_⟩:=h;exact ht.far h1 (by decide) (by decide) hm
def WS.far{w w':World}{g b:Nat}{V:List Vr}{t:TypeId}{cs:Array Value}(h:WS w g V)(hr:Row w b t cs)(ht:t≠79)(hm:Mod (λk=>k=g) w w'):Row w' b t cs:=by obtain⟨⟨p,C,h1,_⟩,_,_⟩:=h;exact hr.aBo h1 ht hm
def xz{a b c:World}{g:Nat}(h1:Mod (λk=>k=g) a b)(h2:Mod (λk=>k=g) b c):Mod (λk=>k=g) a c:=Mod.trans h1 h2 (λ_ h=>h) (λ_ _ h=>h)
def vN{a b c:World}{g:Nat}(h1:Mod (λk=>k=g) a b)(h2:Still b c):Mod (λk=>k=g) a c:=Mod.trans h1 h2 (λ_ h=>h) (λ_ _ h=>h.elim)
def SA{a b c:World}{g:Nat}(h1:Still a b)(h2:Mod (λk=>k=g) b c):Mod (λk=>k=g) a c:=Mod.trans h1 h2 (λ_ h=>h.elim) (λ_ _ h=>h)
def avO{a b:World}{g:Nat}(h:Mod (λk=>k=g) a.drew b):Mod (λk=>k=g) a b:=⟨h.os,h.tape,h.output,h.size,h.block⟩
end Go.Proofs.YtihaaoehhgmphaaGreatDoor.A
namespace Go.Proofs.YtihaaoehhgmphaaGreatDoor.A
open IntKind Go.RowKit Vc
variable{w:World}
abbrev dz(w:World)(g:Nat)(s:ag):Prop:=Row w g 72 ⟨[.string (S s)]⟩
def yq(w:World)(g:Nat)(q:Pr (Tm×ag))(e:Ending)(w':World):Prop:=(match q with
 |.ok p=>∃b,e=.returned (.pointer (some ⟨b,0,none⟩))/\hO w' p.1 b/\dz w' g p.2
 |.bad k=>e=.panicked (rj k))/\Mod (λk=>k=g) w w'
def dz.tree{w':World}{g b:Nat}{s:ag}{t:Tm}(h:dz w g s)(ht:hO w t b)(hm:Mod (λk=>k=g) w w'):hO w' t b:=ht.far h (by decide) (by decide) hm
def aor{g:Nat}{s:ag}(h:dz w g s)(hs:s.length<=140737488355328):an aKO #[.pointer (some ⟨g,0,none⟩)] w (λe w'=>(match CJ s with
  |some p=>e=.returned (.tuple #[.string (S p.1),.string (S p.2.1),.bool true])/\dz w' g p.2.2
  |none=>e=.returned (.tuple #[.string (S []),.string (S []),.bool false])/\dz w' g (trim s))/\Mod (λk=>k=g) w w'):=by
 apply ajE;refine(LQ h).mono ?_;rintro _ w1 ⟨rfl,cy,dX⟩;have htl:=acJ s;refine .inl ⟨_,rfl,_,cy.ai rfl,(Sq (trim s) (by omega)).mono ?_⟩;rintro _ w2 ⟨rfl,hs2⟩;have hr2:dz w2 g (trim s):=cy.still hs2;have hm2:=vN dX hs2;have hle:=vP true (trim s);have hlt:((trim s).take (bT true (trim s))).length=bT true (trim s):=by rw[eZ];omega
 refine .inl ⟨_,rfl,_,hr2.ai rfl,by omega,by omega,?_⟩;rw[hlt,bW];refine aO λw3 hr3 hs3 rA=>aO λw4 hr4 hs4 A6=>?_;have ag6:=hs3.trans hs4;have hq:dz w4 w2.heap.size ((trim s).drop (bT true (trim s))):=hr3.still hs4;refine(qX hq (l:=Hi) (cZ.row hr4) (λa ha=>by injection ha with ha;rw[<-ha];show w3.heap.size≠w2.heap.size;omega) (by decide) (by decide)).mono ?_;rintro e w5 ⟨he,tR⟩;have hne:g≠w2.heap.size:=by have:=hr2.lt;omega
 have nH:dz w5 g (trim s):=(hr2.still ag6).mod tR hne;have aBp:Still w2 w5:=ag6.box (aR _) tR;have Nn:=vN hm2 aBp;have ea:CJ s=if bT true (trim s)≠0/\di ((trim s).drop (bT true (trim s)))∈Hi then some ((trim s).take (bT true (trim s)),di ((trim s).drop (bT true (trim s))),jw ((trim s).drop (bT true (trim s))))else none:=rfl;have en:(trim s).take (bT true (trim s))=[]↔bT true (trim s)=0:=by rw[<-List.length_eq_zero_iff,hlt]
 by_cases ho:di ((trim s).drop (bT true (trim s)))∈Hi
 .rw[aN ho]at he
  obtain⟨rfl,hq5⟩:=he;refine .inl ⟨_,rfl,ax (λh1=>?_) (λh1=>ax (λh2=>?_) (λh2=>?_))⟩
  .have h1:=en.1 (aQ h1)
   rw[ea,aH (λe=>e.1 h1)];exact⟨⟨rfl,nH⟩,Nn⟩
  .exact absurd (aQ h2) (asv ho)
  .have h1:bT true (trim s)≠0:=λe=>aZ h1 (en.2 e)
   rw[ea,aN ⟨h1,ho⟩];refine⟨_,hq5.ai rfl,bF nH λw6 wJ lZ A4=>⟨⟨rfl,wJ⟩,xz Nn lZ⟩⟩
 .rw[aH ho]at he
  obtain⟨rfl,hq5⟩:=he;rw[ea,aH (λe=>ho e.2)];refine .inl ⟨_,rfl,ax (λh1=>⟨⟨rfl,nH⟩,Nn⟩) (λh1=>ax (λh2=>⟨⟨rfl,nH⟩,Nn⟩) (λh2=>absurd rfl (aZ h2)))⟩
end Go.Proofs.YtihaaoehhgmphaaGreatDoor.A
namespace Go.Proofs.YtihaaoehhgmphaaGreatDoor.A
open IntKind Go.RowKit Vc
end Go.Proofs.YtihaaoehhgmphaaGreatDoor.A
namespace Go.Proofs.YtihaaoehhgmphaaGreatDoor.A
open IntKind Go.RowKit Vc
variable{w:World}
abbrev Jd:ag:=[48,49,50,51,52,53,54,55,56,57,65,66,67,68,69,70,71,72,73,74,75,76,77,78,79,80,81,82,83,84,85,86,87,88,89,90,95,97,98,99,100,101,102,103,104,105,106,107,108,109,110,111,112,113,114,115,116,117,118,119,120,121,122]
def axc(c:UInt8):Jd.contains c=LL c:=by
 have h:∀n:Nat,n<256->Jd.contains (UInt8.ofNat n)=LL (UInt8.ofNat n):=by decide+kernel
 have:=h c.toNat c.toNat_lt;rwa[Qf]at this
def atF(s:ag):s.dropWhile (Jd.contains ·)=s.drop (ql s):=by
 have e:(Jd.contains ·:UInt8->Bool)=LL:=by funext c;exact axc c
 rw[e];unfold ql
 induction s with
 |nil=>rfl
 |cons c s ih=>
  rw[PJ,JL];split
  .rw[a_,aJY]
   exact ih
  ·rfl
def TL(g:Nat)(w:World):Nat:=match w.cell? ⟨g,0,none⟩with
 |some (.string s)=>s.size
 |_=>0
def aai{w:World}{g:Nat}{s:ag}(h:dz w g s):TL g w=s.length:=by have hc:w.cell? ⟨g,0,none⟩=some (.string (S s)):=h.ai rfl;unfold TL;rw[hc];rfl
def RO:an Km #[] w (λe w'=>∃b,e=.returned (.slice (some ⟨b,0,none⟩) 10 10)/\(∀l,l<10->∃c n,w'.cell? ⟨b,l,none⟩=some (.slice (some ⟨c,0,none⟩) n n)/\cZ w' (some ⟨c,0,none⟩) n (lv l)/\n<10/\w.heap.size<=c)/\Still w w'):=by
 apply amv;refine aO λw1 r1 s1 z1=>aO λw2 r2 s2 z2=>aO λw3 r3 s3 z3=>aO λw4 r4 s4 z4=>aO λw5 r5 s5 z5=>aO λw6 r6 s6 z6=>aO λw7 r7 s7 z7=>aO λw8 r8 s8 z8=>aO λw9 r9 s9 z9=>aO λaP aHJ iq aIt=>aO λbg gJ ou wM=>?_;have t10:=ou;have t9:=iq.trans t10;have t8:=s9.trans t9;have t7:=s8.trans t8;have t6:=s7.trans t7;have t5:=s6.trans t6;have t4:=s5.trans t5;have t3:=s4.trans t4;have t2:=s3.trans t3;have t1:=s2.trans t2;refine⟨_,rfl,λl hl=>?_,s1.trans t1⟩;have hl:l=0\/l=1\/l=2\/l=3\/l=4\/l=5\/l=6\/l=7\/l=8\/l=9:=by omega
 rcases hl with rfl|rfl|rfl|rfl|rfl|rfl|rfl|rfl|rfl|rfl
 .exact⟨_,_,gJ.ai rfl,cZ.row (l:=lv 0) (r1.still t1),by decide,by omega⟩
 .exact⟨_,_,gJ.ai rfl,cZ.row (l:=lv 1) (r2.still t2),by decide,by omega⟩
 .exact⟨_,_,gJ.ai rfl,cZ.row (l:=lv 2) (r3.still t3),by decide,by omega⟩
 .exact⟨_,_,gJ.ai rfl,cZ.row (l:=lv 3) (r4.still t4),by decide,by omega⟩
 .exact⟨_,_,gJ.ai rfl,cZ.row (l:=lv 4) (r5.still t5),by decide,by omega⟩
 .exact⟨_,_,gJ.ai rfl,cZ.row (l:=lv 5) (r6.still t6),by decide,by omega⟩
 .exact⟨_,_,gJ.ai rfl,cZ.row (l:=lv 6) (r7.still t7),by decide,by omega⟩
 .exact⟨_,_,gJ.ai rfl,cZ.row (l:=lv 7) (r8.still t8),by decide,by omega⟩
 .exact⟨_,_,gJ.ai rfl,cZ.row (l:=lv 8) (r9.still t9),by decide,by omega⟩
 .exact⟨_,_,gJ.ai rfl,cZ.row (l:=lv 9) (aHJ.still t10),by decide,by omega⟩
def Sa{g:Nat}{s:ag}{w1:World}{l:List ag}{b:Nat}(h:dz w1 g s)(hb:Row w1 b 9 ⟨strs l⟩)(hne:b≠g)(hn:l.length<1000)(h0:[]∉l):
  an aJ2 #[.pointer (some ⟨g,0,none⟩),.slice (some ⟨b,0,none⟩) l.length l.length] w1 (λe w'=>(if di s∈l then e=.returned (.string (S (di s)))/\dz w' g (jw s)else e=.returned (.string (S []))/\dz w' g (trim s))/\Mod (λk=>k=g) w1 w'):=
 qX h (cZ.row hb) (λa ha=>by injection ha with ha;rw[<-ha];exact hne) hn h0
end Go.Proofs.YtihaaoehhgmphaaGreatDoor.A
namespace Go.Proofs.YtihaaoehhgmphaaGreatDoor.A
open IntKind Go.RowKit Vc
set_option maxRecDepth 100000
structure Bx(w0 w:World)(b0 b1 b2:Nat)(x:Int)(p:Option Addr)(n C:Nat)(y:Int):Prop where
 r0:Row w b0 3 ⟨[.int .i64 x]⟩
 r1:Row w b1 27 ⟨[.slice p n C]⟩
 r2:Row w b2 28 ⟨[.int .i64 y]⟩
 st:Still w0 w
 l0:w0.heap.size<=b0
 l1:w0.heap.size<=b1
 l2:w0.heap.size<=b2
section
variable{w0 w w':World}{b0 b1 b2 n C:Nat}{x y:Int}{p:Option Addr}
def Bx.box(h:Bx w0 w b0 b1 b2 x p n C y){g:Nat}(hg:w0.heap.size<=g)(h0:b0≠g)(h1:b1≠g)(h2:b2≠g)(hm:Mod (λk=>k=g) w w'):Bx w0 w' b0 b1 b2 x p n C y:=
 ⟨h.r0.mod hm h0,h.r1.mod hm h1,h.r2.mod hm h2,h.st.box hg hm,h.l0,h.l1,h.l2⟩
def Bx.still(h:Bx w0 w b0 b1 b2 x p n C y)(hm:Still w w'):Bx w0 w' b0 b1 b2 x p n C y:=⟨h.r0.still hm,h.r1.still hm,h.r2.still hm,h.st.trans hm,h.l0,h.l1,h.l2⟩
def Bx.aBq(h:Bx w0 w b0 b1 b2 x p n C y):b0≠b1:=h.r0.ne h.r1 (by decide)
def Bx.aBr(h:Bx w0 w b0 b1 b2 x p n C y):b0≠b2:=h.r0.ne h.r2 (by decide)
def Bx.aBs(h:Bx w0 w b0 b1 b2 x p n C y):b1≠b2:=h.r1.ne h.r2 (by decide)
def Bx.done(h:Bx w0 w b0 b1 b2 x p n C y){R:Ending->World->Prop}(hR:R (.returned (.tuple #[.int .i64 x,.slice p n C,.int .i64 y])) w):
  CallsD aL Bs #[.pointer (some ⟨b0,0,none⟩),.pointer (some ⟨b1,0,none⟩),.pointer (some ⟨b2,0,none⟩)] .returning w (λed ux w9=>(∃rv,ed=.returned rv)/\settle ux=.returning/\∃v1:Int,w9.cell? ⟨b0,0,none⟩=some (.int .i64 v1)/\∃(v2:Option Addr) (vL vC:Nat),w9.cell? ⟨b1,0,none⟩=some (.slice v2 vL vC)/\∃v3:Int,w9.cell? ⟨b2,0,none⟩=some (.int .i64 v3)/\R (.returned (.tuple #[.int .i64 v1,.slice v2 vL vC,.int .i64 v3])) w9):=by
 refine(aqY _ _ _ w).mono ?_;rintro _ u w1 ⟨rfl,rfl,rfl⟩;exact⟨⟨_,rfl⟩,rfl,_,h.r0.ai rfl,_,_,_,h.r1.ai rfl,_,h.r2.ai rfl,hR⟩
end
end Go.Proofs.YtihaaoehhgmphaaGreatDoor.A
namespace Go.Proofs.YtihaaoehhgmphaaGreatDoor.A
open IntKind Go.RowKit Vc
set_option maxRecDepth 100000
variable{w w0:World}
structure No(s:ag)(n:Int)(u:ag):Prop where
 op:di s=[]
 tr:trim s=s
 len:s.length<=1000
 sJ:isName (s.take (ql s))=false
 num:Es (s.take (ql s))=some n
 ne:s.take (ql s)≠[]
 rest:s.drop (ql s)=u
def avP(he:Env w0){g:Nat}(hg:w0.heap.size<=g){s u:ag}{n:Int}(h:No s n u)(h0:Still w0 w)(hr:dz w g s):an PA #[.pointer (some ⟨g,0,none⟩),.int .i64 1] w (yq w g (.ok (.num n,u))):=by
 apply akb;refine(rU _ 2).mono ?_;rintro _ w1 ⟨h1,rfl⟩;rw[aN (by decide)]at h1;subst h1;refine .inl ⟨rfl,aO λw2 r2 s2 _=>?_⟩;have hr2:dz w2 g s:=hr.still s2;refine(Sa (l:=Hj) hr2 r2 (by have:=hr.lt;omega) (by decide) (by decide)).mono ?_;rintro e w3 ⟨h3,dx⟩;have VD:=SA s2 dx;rw[h.op,h.tr,aH (by decide)]at h3;obtain⟨rfl,hr3⟩:=h3;refine .inl ⟨_,rfl,ax (λh=>absurd h (by decide)) (λ_=>aO λw7 r7 s7 _=>?_)⟩;have wP:dz w7 g s:=hr3.still s7;refine(Sa (l:=[[40]]) wP r7 (by have:=hr3.lt;omega) (by decide) (by decide)).mono ?_;rintro e w8 ⟨h8,hm8⟩;rw[h.op,h.tr,aH (by decide)]at h8;obtain⟨rfl,C2⟩:=h8;have aBt:=xz (vN VD s7) hm8;refine .inl ⟨_,rfl,ax (λh=>absurd h (by decide)) (λ_=>?_)⟩;have hwn:=au1 s;have hl:=h.len;have cell:∀wq:World,Still w8 wq->wq.cell? ⟨g,0,none⟩=some (.string (S s)):=λwq hq=>(C2.still hq).ai rfl;refine⟨λwq=>Still w8 wq,(Still.refl _).cG,s,cell,s,cell,s,cell,?_⟩;refine(Zn s Jd (by decide) (by decide)).mono ?_;rintro _ aHa ⟨rfl,aBu⟩;have UF:=(Still.refl w8).cG.trans aBu;have ag7:dz aHa g s:=C2.still UF;rw[atF];have ek:i64.wrap ((s.length:Int)-((s.drop (ql s)).length:Int))=(ql s:Int):=by rw[j_,wrap_i64 (by omega) (by omega)];omega
 have hlt:(s.take (ql s)).length=ql s:=by rw[eZ];omega
 refine .inl ⟨_,rfl,UF,?_⟩;rw[ek,bW,hlt,bW];refine⟨by omega,by omega,s,ag7.ai rfl,by omega,by omega,bF ag7 λbR aBv aBw _=>?_⟩;have azG:=xz (vN aBt UF) aBw;refine(Z9 (s.take (ql s)) (by omega)).mono ?_;rintro _ ct ⟨rfl,M5⟩;have aBx:dz ct g (s.drop (ql s)):=Row.still aBv M5;have afT:=vN azG M5;rw[h.sJ];refine .inl ⟨_,rfl,ax (λh=>by cases h) (λ_=>?_)⟩;refine(aq5 (he.still (h0.box hg afT)) _ (by omega)).mono ?_;rintro _ cF ⟨⟨m,ok,rfl,hm,hv⟩,ag8⟩;rw[h.num]at hv;obtain⟨rfl,rfl⟩:=hv;refine .inl ⟨_,_,rfl,ax (λ_=>(rU _ 130).mono ?_) (λh=>by cases h)⟩;rintro _ dI ⟨h18,rfl⟩;rw[fY h.ne,aN (by decide)]at h18;subst h18;have ag9:=aBx.still ag8;rw[h.rest]at ag9;exact .inl ⟨rfl,aO λaHr CU j7 _=>⟨⟨_,rfl,CU,ag9.still j7⟩,vN (vN afT ag8) j7⟩⟩
def Ct(w0:World)(g l:Nat)(s:ag)(t:Tm)(u:ag):Prop:=∀{w:World},Still w0 w->dz w g s->an FB #[.pointer (some ⟨g,0,none⟩),.int .i64 (l:Int),.int .i64 1] w (yq w g (.ok (t,u)))
def ad_(he:Env w0){g:Nat}(hg:w0.heap.size<=g){s u:ag}{n:Int}(h:No s n u):Ct w0 g 10 s (.num n) u:=by intro w h0 hr;apply XP;refine RO.mono ?_;rintro _ w1 ⟨b0,rfl,hb0,hs1⟩;have cy:dz w1 g s:=hr.still hs1;refine .inl ⟨_,_,_,rfl,ax (λ_=>?_) (λhx=>absurd rfl (aZ hx))⟩;refine(avP he hg h (h0.trans hs1) cy).mono ?_;rintro e w2 ⟨⟨b,rfl,ht,hr4⟩,hm2⟩;exact .inl ⟨_,rfl,⟨_,rfl,ht,hr4⟩,SA hs1 hm2⟩
def aea{g:Nat}(hg:w0.heap.size<=g){l:Nat}(hl:l<10){s u:ag}{a q:Tm}(h1:Ct w0 g (l+1) s a u)(H:(u=[]/\a=q)\/(di u=[42]/\l=9/\∃y,Ct w0 g (l+1) (jw u) y []/\q=.bin [42] a y)):Ct w0 g l s q []:=by
 intro w h0 hr;apply XP;have e1:i64.wrap ((l:Int)+1)=((l+1:Nat):Int):=wI;refine RO.mono ?_;rintro _ w1 ⟨b0,rfl,hb0,hs1⟩;have cy:dz w1 g s:=hr.still hs1;refine .inl ⟨_,_,_,rfl,ax (λhx=>absurd (aQ hx) (by omega)) (λ_=>?_)⟩;rw[e1];refine(h1 (h0.trans hs1) cy).mono ?_;rintro _ w3 ⟨⟨b,rfl,I2,hr3⟩,dx⟩;have VD:=SA hs1 dx;refine .inl ⟨_,rfl,λp w4=>∃(b:Nat) (a':Tm) (u':ag),p=some ⟨b,0,none⟩/\((u'=[]/\a'=q)\/(u'=u/\a'=a/\di u=[42]))/\hO w4 a' b/\dz w4 g u'/\Mod (λk=>k=g) w w4,λ_ w4=>TL g w4,⟨b,a,u,rfl,?_,I2,hr3,VD⟩,?_⟩
 .rcases H with⟨h2,h3⟩|⟨ho,_⟩
  .exact .inl ⟨h2,h3⟩
  .exact .inr ⟨rfl,rfl,ho⟩
 rintro _ _ w4 ⟨b,a',u',rfl,WN,ht4,hr4,lY⟩;refine RO.mono ?_;rintro _ w5 ⟨b5,rfl,zg,hs5⟩;obtain⟨c,n,hc,hlv,hn,hcs⟩:=zg l hl;have nH:dz w5 g u':=hr4.still hs5;refine .inl ⟨_,_,_,rfl,by omega,by omega,_,_,_,by rw[bW,aHA,bM,cL];exact hc,?_⟩;refine(qX nH hlv (λx hx=>by injection hx with hx;rw[<-hx];show c≠g;have:=hr4.lt;omega) (by omega) (λe=>aft e rfl)).mono ?_;rintro e w6 ⟨h6,lZ⟩;have VE:=xz lY (xz (vN (Mod.refl _ w4) hs5) lZ);have Ob:=dz.tree nH (ht4.still hs5) lZ;rcases WN with⟨hu,ha⟩|⟨hu,ha,ho⟩
 .subst hu ha
  rw[aH (show¬di []∈lv l from λe=>aft e rfl)]at h6;obtain⟨rfl,wJ⟩:=h6;exact .inl ⟨_,rfl,ax (λ_=>⟨⟨_,rfl,Ob,wJ⟩,VE⟩) (λh=>absurd rfl (aZ h))⟩
 .subst hu ha
  rcases H with⟨h2,_⟩|⟨_,h9,y,hy,hq⟩
  .rw[h2]at ho
   exact absurd ho (by decide)
  subst h9 hq;rw[aN (by rw[ho];decide)]at h6;obtain⟨rfl,wJ⟩:=h6;have hlt:=awE (s:=u') (by rw[ho];decide);rw[ho];refine .inl ⟨_,rfl,ax (λh=>absurd (aQ h) (by decide)) (λ_=>?_)⟩
  try rw[e1]
  refine(hy (h0.box hg VE) wJ).mono ?_;rintro _ w7 ⟨⟨b7,rfl,ht7,wP⟩,ES⟩;refine .inl ⟨_,rfl,aO λw8 r8 s8 _=>aO λw9 r9 s9 _=>?_⟩;have pY:=s8.trans s9;refine ax (λh=>absurd (aQ h) (by decide)) (λ_=>ax (λh=>absurd (aQ h) (by decide)) (λ_=>?_));refine⟨⟨_,.bin [42] a' y,[],rfl,.inl ⟨rfl,rfl⟩,⟨w7.heap.size,b,b7,r9,r8.still s9,(dz.tree wJ Ob ES).still pY,ht7.still pY⟩,wP.still pY,vN (xz VE ES) pY⟩,?_⟩;dsimp only;rw[aai (wP.still pY),aai hr4];simp only[cq];omega
def axd{g:Nat}(hg:w0.heap.size<=g){s:ag}{t:Tm}(l:Nat):l<=10->Ct w0 g l s t []->Ct w0 g 0 s t []:=by
 induction l with
 |zero=>exact λ_ h=>h
 |succ l ih=>exact λhl h=>ih (by omega) (aea hg (by omega) h (.inl ⟨rfl,rfl⟩))
def Np:Tm:=.bin [42] (.num 2) (.num 3)
def axe:No [50,42,51] 2 [42,51]:=⟨by decide,by decide,by decide,by decide,by kernel_rfl,by decide,by decide⟩
def atG:No [51] 3 []:=⟨by decide,by decide,by decide,by decide,by kernel_rfl,by decide,by decide⟩
def axf(he:Env w0){g:Nat}(hg:w0.heap.size<=g):Ct w0 g 0 [50,42,51] Np []:=
 axd hg 9 (by decide) (aea hg (by decide) (ad_ he hg axe) (.inr ⟨by decide,rfl,_,ad_ he hg atG,rfl⟩))
def axg(he:Env w0){g:Nat}(hg:w0.heap.size<=g)(h0:Still w0 w)(hr:dz w g [50,42,51]):an P6 #[.pointer (some ⟨g,0,none⟩),.int .i64 1] w (yq w g (.ok (Np,[]))):=by
 apply akT;refine(rU _ 2).mono ?_;rintro _ w1 ⟨h1,rfl⟩;rw[aN (by decide)]at h1;subst h1;refine .inl ⟨rfl,(aor hr (by decide)).mono ?_⟩;rintro _ w2 ⟨h2,hm2⟩;rw[show CJ [50,42,51]=none by decide]at h2;obtain⟨rfl,hr2⟩:=h2;have hr2:dz w2 g [50,42,51]:=hr2;refine .inl ⟨_,_,_,rfl,ax (λh=>absurd h (by decide)) (λ_=>?_)⟩;have hc:an Px #[.pointer (some ⟨g,0,none⟩),.int .i64 1] w2 (yq w2 g (.ok (Np,[]))):=by apply aj4;refine(axf he hg (h0.box hg hm2) hr2).mono ?_;rintro _ w3 ⟨⟨b,rfl,I2,hr3⟩,dx⟩;refine .inl ⟨_,rfl,aO λw4 r4 s4 _=>?_⟩;have hr4:dz w4 g []:=hr3.still s4;refine(Sa (l:=[[63]]) hr4 r4 (by have:=hr3.lt;omega) (by decide) (by decide)).mono ?_;rintro e w5 ⟨h5,tR⟩;rw[aH (by decide)]at h5;obtain⟨rfl,nH⟩:=h5;exact .inl ⟨_,rfl,ax (λ_=>⟨⟨_,rfl,dz.tree hr4 (I2.still s4) tR,nH⟩,xz (vN dx s4) tR⟩) (λh=>absurd h (by decide))⟩
 refine hc.mono ?_;rintro _ w4 ⟨⟨b,rfl,ht,hr4⟩,lY⟩;exact .inl ⟨_,rfl,⟨_,rfl,ht,hr4⟩,xz hm2 lY⟩
def adm{g b:Nat}{n:Int}(hr:Row w b 147 ⟨uQ 0 n [] [] (.slice none 0 0)⟩):an Dm #[.pointer (some ⟨g,0,none⟩),.pointer (some ⟨b,0,none⟩)] w (λe w'=>e=.returned (.int .i64 n)/\w'=w):=by
 apply XX;refine⟨(0:Int),hr.ai rfl,?_⟩
 repeat refine ax (λh=>absurd h (by decide)) (λ_=>?_)
 exact⟨n,by rw[bM];exact hr.ai rfl,rfl,rfl⟩
def mul_eval{g b:Nat}(ht:hO w Np b):an Dm #[.pointer (some ⟨g,0,none⟩),.pointer (some ⟨b,0,none⟩)] w (λe w'=>e=.returned (.int .i64 6)/\Still w w'):=by
 obtain⟨c,k1,k2,hr,hc,hx,hy⟩:=ht;have hr:Row w b 147 ⟨uQ 3 0 [42] [] (kids c 2)⟩:=hr;have hx:Row w k1 147 ⟨uQ 0 2 [] [] (.slice none 0 0)⟩:=hx;have hy:Row w k2 147 ⟨uQ 0 3 [] [] (.slice none 0 0)⟩:=hy;apply XX;refine⟨(3:Int),hr.ai rfl,?_⟩
 repeat refine ax (λh=>absurd h (by decide)) (λ_=>?_)
 refine ax (λ_=>?_) (λh=>absurd h (by decide));refine⟨some ⟨c,0,none⟩,2,2,by rw[bM];exact hr.ai rfl,by decide,by decide,some ⟨k1,0,none⟩,by rw[bM];exact hc.ai rfl,(adm hx).mono ?_⟩;rintro _ w1 ⟨rfl,rfl⟩;refine .inl ⟨_,rfl,λwq=>Row wq b 147 ⟨uQ 3 0 [42] [] (kids c 2)⟩/\Row wq c 74 ⟨[zu k1,zu k2]⟩,⟨hr.drew,hc.drew⟩,[42],λwq hq=>by rw[bM];exact hq.1.ai rfl,some ⟨c,0,none⟩,2,2,λwq hq=>by rw[bM];exact hq.1.ai rfl,by decide,by decide,some ⟨k2,0,none⟩,λwq hq=>by rw[bM];exact hq.2.ai rfl,?_⟩;refine(adm hy.drew).mono ?_;rintro _ w2 ⟨rfl,rfl⟩;refine .inl ⟨_,rfl,⟨hr.drew,hc.drew⟩,?_⟩;have hk:∀w2:World,an QW #[.string (S [42]),.int .i64 2,.int .i64 3] w2 (λe w'=>e=.returned (.int .i64 6)/\w'=w2):=by
  intro w2;apply amq;refine⟨λw1=>w1=w2,?_,?_⟩
  .refine ax (λ_=>?_) (λh=>absurd h (by decide))
   refine(rU true 131).mono ?_;rintro _ w1 ⟨h1,rfl⟩;rw[aN rfl]at h1;subst h1;exact .inl ⟨rfl,rfl⟩
  rintro _ w4 rfl;refine ax (λh=>absurd h (by decide)) (λ_=>ax (λh=>absurd h (by decide)) (λ_=>ax (λ_=>⟨rfl,rfl⟩) (λh=>absurd h (by decide))))
 refine(hk _).mono ?_;rintro e w3 ⟨rfl,rfl⟩;exact .inl ⟨_,rfl,rfl,(Still.refl _).cG⟩
def avQ(he:Env w):an Ri #[.string (S [50,42,51]),.slice none 0 0] w (λe w'=>(∃q n C,e=.returned (.tuple #[.int .i64 6,.slice q n C,.int .i64 0]))/\Still w w'):=by
 apply amZ;refine aO λw1 q1 s1 z1=>aO λw2 q2 s2 z2=>aO λw3 q3 s3 z3=>aO λw4 q4 s4 z4=>?_;have aHS:Still w w4:=((s1.trans s2).trans s3).trans s4;have bx4:Bx w w4 w.heap.size w1.heap.size w2.heap.size 0 none 0 0 0:=⟨q1.still ((s2.trans s3).trans s4),q2.still (s3.trans s4),q3.still s4,aHS,by omega,by omega,by omega⟩;have Ou:w.heap.size≠w3.heap.size:=by omega
 have W7:w1.heap.size≠w3.heap.size:=by omega
 have W8:w2.heap.size≠w3.heap.size:=by omega
 have Ov:w.heap.size<=w3.heap.size:=by omega
 have hp4:dz w4 w3.heap.size [50,42,51]:=q4;generalize w3.heap.size=g at*;generalize w2.heap.size=b2 at*;generalize w1.heap.size=b1 at*;generalize hb0:w.heap.size=b0 at bx4 Ou⊢;clear q1 q2 q3 q4 s1 s2 s3 s4;refine(LQ hp4).mono ?_;rintro _ w5 ⟨rfl,vh,tR⟩;have bx5:=bx4.box Ov Ou W7 W8 tR;refine .inl ⟨_,rfl,_,vh.ai rfl,ax (λhx=>absurd (aQ hx) (by decide)) (λhx=>?_)⟩;refine(axg he Ov bx5.st vh).mono ?_;rintro e aP ⟨⟨b,rfl,aBy,ag_⟩,aBz⟩;have aBA:=bx5.box Ov Ou W7 W8 aBz;refine .inl ⟨_,rfl,(LQ ag_).mono ?_⟩;rintro _ bg ⟨rfl,H6,aha⟩;have Nq:=aBA.box Ov Ou W7 W8 aha;have aBB:=dz.tree ag_ aBy aha;refine .inl ⟨_,rfl,_,H6.ai rfl,(rU _ 130).mono ?_⟩;rintro _ bI ⟨h12,rfl⟩;rw[aN (by decide)]at h12;subst h12;refine .inl ⟨rfl,aO λaHa qH aHK aJi=>?_⟩;have aBC:=Nq.still aHK;have g0:=Nq.r0.lt;have g1:=Nq.r1.lt;have g2:=Nq.r2.lt;refine(mul_eval (aBB.still aHK)).mono ?_;rintro e bR ⟨rfl,ji⟩;have aIO:=aBC.still ji;have rH:=qH.still ji;refine .inl ⟨_,rfl,?_⟩;generalize bI.heap.size=gw at*;refine bF aIO.r0 λct A8 m15 _=>?_;have ne0:b0≠gw:=by omega
 have ae6:=rH.mod m15 ne0.symm;refine⟨λwq=>wq.cell? ⟨b0,0,none⟩=some (.int .i64 6)/\wq.cell? ⟨gw,0,none⟩=some (.slice none 0 0),⟨A8.drew.ai rfl,ae6.drew.ai rfl⟩,6,λwq hq=>hq.1,none,0,0,λwq hq=>hq.2,?_⟩;refine dL A8.drew (by simp[fF]) (by simp[Value.oneCell']) λbX r16 m16 _=>⟨⟨r16.ai rfl,(ae6.drew.mod m16 ne0.symm).ai rfl⟩,?_⟩;have md:Mod (λk=>k=b0) bR bX:=xz m15 (avO m16);have bx1:=aIO.aBq;have bx2:=aIO.aBr;have bx3:=aIO.aBs;refine bF (aIO.r1.mod md bx1.symm) λcF zm m17 _=>?_;refine bF ((aIO.r2.mod md bx2.symm).mod m17 bx3.symm) λdI I8 m18 _=>?_;have afU:Still w dI:=((aIO.st.box aIO.l0 md).box aIO.l1 m17).box aIO.l2 m18;have aBD:Bx w dI b0 b1 b2 6 none 0 0 0:=⟨(r16.mod m17 bx1).mod m18 bx2,zm.mod m18 bx3,I8,afU,aIO.l0,aIO.l1,aIO.l2⟩;exact aBD.done (R:=λe w'=>(∃q n C,e=.returned (.tuple #[.int .i64 6,.slice q n C,.int .i64 0]))/\Still w w') ⟨⟨_,_,_,rfl⟩,afU⟩
end Go.Proofs.YtihaaoehhgmphaaGreatDoor.A
namespace Go.Proofs.YtihaaoehhgmphaaGreatDoor.L
open IntKind Go.RowKit Vc
variable{w:World}
def aeb{l:List Pt}{k:Nat}(h:k<l.length):SizeOf.sizeOf l[k].w<SizeOf.sizeOf l:=au0 (kL h)
def aec{l:List Pt}{k:Nat}(h:k<l.length):aHf l[k].w<=aHf l:=by have h1:=adQ (kL h);have h2:=l[k].uL;omega
def Bd(w:World)(g B:Nat)(bs:ag):Prop:=∃cs v,cs.length=2/\aHt w 86 g 0 B cs v bs
def Bd.still{w':World}{g B:Nat}{bs:ag}(h:Bd w g B bs)(hm:Still w w'):Bd w' g B bs:=by obtain⟨cs,v,h1,h2⟩:=h;exact⟨cs,v,h1,h2.still hm⟩
def Bd.write{g B:Nat}{bs:ag}(h:Bd w g B bs)(s:ag)(hB:B<=w.heap.size)(hs:bs.length+s.length<=140737488355328){w0:World}(h0:Still w0 w)(hg:w0.heap.size<=g)(EP:w0.heap.size<=B):
  an lR #[.pointer (some ⟨g,0,none⟩),.string (S s)] w (λe w'=>e=.returned (.tuple #[.int .i64 (s.length:Int),.nilIface])/\Bd w' g B (bs++s)/\Still w0 w'/\w.heap.size<=w'.heap.size):=by
 obtain⟨cs,v,h1,h2⟩:=h;have hl:nV 86 cs.length 0:=by rw[h1];exact Gx
 refine(Bp h2 hl s hB hs).mono ?_;rintro _ w' ⟨rfl,v',h3,h4⟩;refine⟨rfl,⟨_,v',by simp[h1],h3⟩,Mod.trans h0 h4 (λ_ h=>h) (λk hk e=>?_),h4.size⟩;rcases e with e|e
 .omega
 .have:=(h2.own.lt k e).1;omega
def Bd.told{g B:Nat}{bs:ag}(h:Bd w g B bs)(hs:bs.length<=140737488355328){w0:World}(h0:Still w0 w)(EP:w0.heap.size<=B):an uc #[.pointer (some ⟨g,0,none⟩)] w (λe w'=>e=.returned (.string (S bs))/\Still w0 w'):=by obtain⟨cs,v,h1,h2⟩:=h;refine(aKa h2 hs).mono ?_;rintro _ w' ⟨rfl,h4⟩;exact⟨rfl,Mod.trans h0 h4 (λ_ h=>h) λk hk e=>by have:=(h2.own.lt k e).1;omega⟩
def core(x:Pt):ag:=if x.k=2 then[36,40]++x.t++[41]else if x.k=3 then[36,40,40]++x.t++[41,41]else if x.k=1 then(if x.o=agl then[36,123,35]++x.n++[125]else[36,123]++x.n++x.o++gA x.w++[125])else[]
def LS(x:Pt):x.pr=if x.k=0 then(if x.q=true then single x.t else x.t)else Eb x.q (core x):=by cases x;rfl
def ap9(t:ag):single t=39::jS 39 [39,92,39,39] t++[39]:=rfl
def avR{l:List Pt}{k:Nat}(h:k<l.length):gA (l.take (k+1))=gA (l.take k)++l[k].pr:=by rw[take_one h,aaD];simp[gA]
def avS(x:Pt):(core x).length+2<=x.wt:=by
 have h1:=x.uL;have h2:=DT x.w;unfold core;split
 .simp;omega
 .split
  .simp;omega
  .split
   .split
    .simp;omega
    .simp;omega
   .simp only[cq];omega
def adn{x:Pt}{F:Nat->Prop}{vw:Value}(hw:aHg w F x.w vw)(hl:x.wt<1000000)(ih:∀w1,Still w w1->an aIZ #[vw] w1 (λe w'=>e=.returned (.string (S (gA x.w)))/\Still w1 w')):
  an KA #[Ev x vw] w (λe w'=>e=.returned (.string (S (core x)))/\Still w w'):=by
 obtain⟨wp,wc,rfl⟩:=hw.form;have h1:=x.uL;have h2:=DT x.w;apply am5;refine aO λw1 r1 s1 z1=>?_;obtain⟨f0,f1,f2,f3,f4,f5⟩:=Gm (x:=x) r1;unfold core;refine⟨_,f0,ax (λh=>?_) (λh=>ax (λh3=>?_) (λh3=>ax (λh4=>⟨_,f4,ax (λh5=>?_) (λh5=>?_)⟩) (λh4=>?_)))⟩
 .rw[aN (aQ h)]
  exact⟨_,f2,by simp only[a_,cq];omega,by simp only[aHb,a_,cq];omega,rfl,s1⟩
 .rw[aH (aZ h),aN (aQ h3)]
  exact⟨_,f2,by simp only[a_,cq];omega,by simp only[aHb,a_,cq];omega,rfl,s1⟩
 .rw[aH (aZ h),aH (aZ h3),aN (aQ h4),aN (aQ h5)]
  exact⟨_,f3,by simp only[a_,cq];omega,by simp only[aHb,a_,cq];omega,rfl,s1⟩
 .rw[aH (aZ h),aH (aZ h3),aN (aQ h4),aH (aZ h5)]
  have rd:∀wq:World,Still w1 wq->Row wq w.heap.size 51 ⟨hU x (.slice wp x.w.length wc)⟩:=λwq hq=>r1.still hq;refine⟨λwq=>Still w1 wq,jd w1,x.n,λwq hq=>(rd wq hq).ai rfl,by simp only[a_,cq];omega,x.o,λwq hq=>(rd wq hq).ai rfl,by simp only[aHb,a_,cq];omega,wp,x.w.length,wc,λwq hq=>(rd wq hq).ai rfl,?_⟩;refine(ih w1.drew s1.cG).mono ?_;rintro _ w2 ⟨rfl,s2⟩;exact .inl ⟨_,rfl,(jd w1).trans s2,by simp only[aHb,a_,cq];omega,by simp only[aHb,a_,cq];omega,rfl,s1.cG.trans s2⟩
 .rw[aH (aZ h),aH (aZ h3),aH (aZ h4)]
  exact⟨rfl,s1⟩
def avT:∀(n:Nat) (l:List Pt),SizeOf.sizeOf l<n->aHf l<1000000->∀(w:World) (F:Nat->Prop) (v:Value),aHg w F l v->an aIZ #[v] w (λe w'=>e=.returned (.string (S (gA l)))/\Still w w'):=by
 intro n
 induction n with
 |zero=>intro l h;omega
 |succ n ih=>
  intro l hn hl w F v hv;obtain⟨p,c,rfl⟩:=hv.form;have y_:=LJ l;have hpl:=DT l;apply am1;refine aO λw1 r1 s1 z1=>?_;have hb0:Bd w1 w.heap.size (w.heap.size+1) []:=⟨_,_,rfl,aHt.fresh r1 rfl rfl⟩;refine⟨λx w2=>∃k:Nat,x=(k:Int)/\k<=l.length/\Bd w2 w.heap.size (w.heap.size+1) (gA (l.take k))/\Still w w2/\w1.heap.size<=w2.heap.size,λx _=>l.length-x.toNat,⟨0,rfl,dU _,hb0,s1,aR _⟩,?_⟩;rintro _ _ w2 ⟨k,rfl,hk,hb,hs2,gU⟩;refine ax (λhx=>?_) (λhx=>?_);rotate_left
  .have hx:k=l.length:=by have:=aZ hx;omega
   rw[hx,aH0]at hb;refine(hb.told (by omega) hs2 (by omega)).mono ?_;rintro _ w3 ⟨rfl,s3⟩;exact .inl ⟨_,rfl,rfl,s3⟩
  have hx:k<l.length:=by have:=aQ hx;omega
  obtain⟨b,wp,wc,rfl,c0,c1,c2,c3,c4,c5,hsw⟩:=(hv.still hs2).fields hx;have hwk:=ad2 hx;have hpk:=DT (l.take k);have Od:=l[k].uL;have hcl:=avS l[k];rw[bW];refine⟨λaHa=>Bd aHa w.heap.size (w.heap.size+1) (gA (l.take (k+1)))/\Still w aHa/\w1.heap.size<=aHa.heap.size,⟨by omega,by omega,_,_,_,_,_,_,_,_,c0,c1,c2,c3,c4,c5,wm rfl agK λw4 r4 s4 z4=>?_⟩,?_⟩;rotate_left
  .rintro _ aHa ⟨h1,h2,h3⟩
   rw[show i64.wrap ((k:Int)+1)=((k+1:Nat):Int) by rw[wrap_i64 (by omega) (by omega)];omega];exact⟨⟨k+1,rfl,hx,h1,h2,h3⟩,by dsimp only;omega⟩
  have hb4:=hb.still s4;have hs4:=hs2.trans s4;have A6:w1.heap.size<=w4.heap.size:=by omega
  refine⟨λb w5=>b=(decide (l[k].k=0)&&l[k].q)/\w5=w4,⟨_,r4.ai rfl,ax (λh=>⟨_,r4.ai rfl,?_,rfl⟩) (λh=>⟨?_,rfl⟩)⟩,?_⟩
  .rw[h,Br]
  .rw[h,Kg]
  rintro b' _ w5 ⟨hb',rfl⟩
  -- what is told is put behind
  have put:∀(s:ag) (w6:World),Still w5 w6->l[k].pr=s->an lR #[.pointer (some (Addr.mk w.heap.size 0 none)),.string (S s)] w6 (λed w7=>(∃r1:Int,∃r2:Value,r2.oneCell'=true/\ed=.returned (.tuple #[.int .i64 r1,r2])/\Bd w7 w.heap.size (w.heap.size+1) (gA (l.take (k+1)))/\Still w w7/\w1.heap.size<=w7.heap.size)\/(∃ch,ed=.panicked ch/\(Ending.panicked ch=.returned (.string (S (gA l)))/\Still w w7))):=by intro s w6 s6 hs;have hps:=l[k].aeK;refine((hb4.still s6).write s (by have:=s6.size;omega) (by rw[<-hs];omega) (hs4.trans s6) (aR _) (by omega)).mono ?_;rintro _ w7 ⟨rfl,h7,s7,z7⟩;refine .inl ⟨_,_,rfl,rfl,by rw[avR hx,hs];exact h7,s7,by have:=s6.size;omega⟩
  refine ax (λh=>?_) (λh=>⟨_,r4.ai rfl,ax (λh3=>?_) (λh3=>⟨_,r4.ai rfl,ax (λh5=>?_) (λh5=>?_)⟩)⟩)
  .rw[h]at hb'
   have hk0:l[k].k=0/\l[k].q=true:=by simpa using hb'.symm
   refine⟨_,r4.ai rfl,(Y2 39 [39,92,39,39] l[k].t (by omega) (by decide) (by decide) (by decide)).mono ?_⟩;rintro _ w6 ⟨rfl,s6⟩;have gh:=aaF l[k].t;rw[ap9]at gh;simp only[aHb,a_,cq]at gh;exact .inl ⟨_,rfl,by simp only[a_,cq];omega,by simp only[aHb,a_,cq];omega,put _ w6 s6 (by rw[LS,aN hk0.1,aN hk0.2];rfl)⟩
  .have hk0:l[k].k=0:=aQ h3
   have hq0:l[k].q=false:=by rw[h,hk0]at hb';simpa using hb'.symm
   exact⟨_,r4.ai rfl,put _ _ (Still.refl _) (by rw[LS,aN hk0,aH (by rw[hq0];decide)])⟩
  .have hk0:¬l[k].k=0:=aZ h3
   refine⟨_,_,_,_,_,_,_,_,r4.ai rfl,r4.ai rfl,r4.ai rfl,r4.ai rfl,r4.ai rfl,r4.ai rfl,(adn (x:=l[k]) (hsw.still s4) (by omega) λwq hq=>ih _ (by have:=aeb hx;omega) (by have:=aec hx;omega) wq F _ ((hsw.still s4).still hq)).mono ?_⟩;rintro _ w6 ⟨rfl,s6⟩;exact .inl ⟨_,rfl,by simp only[a_,cq];omega,by simp only[aHb,a_,cq];omega,put _ w6 s6 (by rw[LS,aH hk0,Eb,aN h5];rfl)⟩
  .have hk0:¬l[k].k=0:=aZ h3
   refine⟨_,_,_,_,_,_,_,_,r4.ai rfl,r4.ai rfl,r4.ai rfl,r4.ai rfl,r4.ai rfl,r4.ai rfl,(adn (x:=l[k]) (hsw.still s4) (by omega) λwq hq=>ih _ (by have:=aeb hx;omega) (by have:=aec hx;omega) wq F _ ((hsw.still s4).still hq)).mono ?_⟩;rintro _ w6 ⟨rfl,s6⟩;exact .inl ⟨_,rfl,put _ w6 s6 (by rw[LS,aH hk0,Eb,aH (by rw[h5];decide)])⟩
def Sb{F:Nat->Prop}{l:List Pt}{v:Value}(hv:aHg w F l v)(hl:aHf l<1000000):an aIZ #[v] w (λe w'=>e=.returned (.string (S (gA l)))/\Still w w'):=avT _ l (lB _) hl w F v hv
end Go.Proofs.YtihaaoehhgmphaaGreatDoor.L
namespace Go.Proofs.YtihaaoehhgmphaaGreatDoor.L.U
open IntKind Go.RowKit Vc
variable{w:World}
def Ss(w:World)(B:Nat)(l:List ag)(v:Value):Prop:=∃p c,v=.slice p l.length c/\aS w B 9 1 v l.length (strs l)
def Ss.still{w':World}{B:Nat}{l:List ag}{v:Value}(h:Ss w B l v)(hm:Still w w'):Ss w' B l v:=by obtain⟨p,c,rfl,ho⟩:=h;exact⟨p,c,rfl,ho.still hm⟩
def Ss.form{B:Nat}{l:List ag}{v:Value}(h:Ss w B l v):∃p c,v=.slice p l.length c:=by obtain⟨p,c,he,_⟩:=h;exact⟨p,c,he⟩
def abd(sep:ag)(l:List ag):Lib.join l sep=HB sep l:=by
 cases l with
 |nil=>rfl
 |cons x r=>rw[Lib.join_cons];simp only[Lib.joinTail,HB,List.flatMap_def]
def arH{B:Nat}{l:List ag}{p:Option Addr}{c:Nat}(h:Ss w B l (.slice p l.length c))(sep:ag)(hl:l.length<=1000000000)(hj:(HB sep l).length<=140737488355328):
  an Dv #[.slice p l.length c,.string (S sep)] w (λe w'=>e=.returned (.string (S (HB sep l)))/\Still w w'):=by
 by_cases h0:l=[]
 .subst h0
  refine(Tryz.strings_Join_none p c (S sep) w).mono ?_;rintro _ w' ⟨rfl,rfl⟩;exact⟨rfl,Still.refl _⟩
 .obtain⟨p',c',he,ho⟩:=h
  injection he with e1 e2 e3;subst e1 e3;obtain⟨g,cap,he,_,hg,hcap,hcell⟩:=ho.aKl (nj.2 h0);injection he with e1 e2 e3;subst e1 e3;have hm:(l.map S).map (·.data.toList)=l:=by rw[Dw];exact List.map_id' l
  have hJ:=Tryz.strings_Join g 0 c (l.map S) (S sep) w (λj x hx=>by
   rw[vF]at hx;cases hj:l[j]? with
   |none=>rw[hj]at hx;cases hx
   |some y=>rw[hj]at hx;obtain rfl:=bO hx;rw[cL];exact hcell j _ (by simp[strs,hj])) hg (by rw[ke];omega) (by rw[ke];exact hcap) (by rw[hm];show(Lib.join l sep).length<=_;rw[abd];exact hj)
  rw[ke,hm]at hJ;refine hJ.mono ?_;rintro e w' ⟨rfl,hb⟩;refine⟨?_,(Still.refl w).trans' hb (aR _)⟩;show Ending.returned (.string ⟨⟨Lib.join l sep⟩⟩)=_
  rw[abd]
def ado(z:Value):∀n,aI6 [z] n=List.replicate n z
 |0=>rfl
 |n+1=>by
  rw[aLj];show[z]++aI6 [z] n=_
  rw[ado z n];rfl
def aHw(l:List ag)(n k:Nat):List ag:=l.take k++List.replicate (n-k) []
def avU(l:List ag)(n:Nat):aHw l n 0=List.replicate n []:=by simp[aHw]
def axh(l:List ag):aHw l l.length l.length=l:=by simp[aHw]
def axi{l:List ag}{k:Nat}(h:k<l.length):(strs (aHw l l.length k)).set k (.string (S l[k]))=strs (aHw l l.length (k+1)):=by unfold strs aHw;rw[aIW,aIW,Jz _ _ (by rw[ke,eZ];omega),ke,eZ,Dq (by omega),Nat.sub_self,show l.length-k=(l.length-(k+1))+1 by omega,aLj,gi,Ya,take_one h,aIW,j9];rfl
def axj(l:List ag){k:Nat}(h:k<=l.length):(strs (aHw l l.length k)).length=l.length:=by simp[strs,aHw];omega
def Ss.made{g:Nat}{l:List ag}{B:Nat}(hr:Row w g 9 ⟨strs l⟩)(hB:B<=g)(hl:l.length<=1000000000):Ss w B l (.slice (some ⟨g,0,none⟩) l.length l.length):=by
 have hs:(strs l).length=l.length:=by simp[strs]
 exact⟨_,_,rfl,by rw[hs,aHA],.inr ⟨g,l.length,⟨strs l⟩,rfl,hB,hr,aR _,kf hl (by decide),by show(strs l).length=_;rw[hs,aHA],by rw[aHA,<-hs];exact aH0⟩⟩
def yx(w:World)(l:List ag)(x:Int)(w2:World):Prop:=∃k:Nat,x=(k:Int)/\k<=l.length/\Row w2 w.heap.size 9 ⟨strs (aHw l l.length k)⟩/\Still w w2
def K_{l:List ag}{n:Nat}(hn:l.length=n){K:World->Prop}(h:∀w1,yx w l 0 w1->K w1):cP (w.alloc (.cells (madeCells #[.string (S [])] (Int.toNat (n:Int)*1)) 9)) K:=by
 have e:madeCells #[.string (S [])] (Int.toNat (n:Int)*1)=⟨strs (aHw l l.length 0)⟩:=by rw[bW,avU,hn];have:=Y4 [.string (S [])] n;rw[show[Value.string (S [])].length=1 from rfl]at this;rw[this,ado];simp[strs]
 rw[e];exact aO λw1 r1 s1 _=>h w1 ⟨0,rfl,dU _,r1,s1⟩
def adp{l:List ag}{k:Nat}(hk:k<l.length){w2 w3:World}(hr:Row w2 w.heap.size 9 ⟨strs (aHw l l.length k)⟩)(hs:Still w w2)(s3:Still w2 w3){K:World->Prop}(h:∀w',yx w l ((k+1:Nat):Int) w'->K w'):
  cA ((Addr.mk w.heap.size 0 none).add (Int.toNat (k:Int)*1)) K 0 [.string (S l[k])] w3:=by
 rw[bM,bW,aHA,cL];refine dL (hr.still s3) (by rw[axj _ (by omega)];simp only[a_,cq];omega) (by simp[Value.oneCell']) λw' r' m' z'=>h w' ⟨k+1,rfl,hk,?_,Mod.trans (hs.trans s3) m' (λ_ h=>h) (λi hi e=>by omega)⟩;have e:fF (strs (aHw l l.length k)) k [.string (S l[k])]=(strs (aHw l l.length k)).set k (.string (S l[k])):=rfl;rw[e,axi hk]at r';exact r'
def Lw{w':World}{l:List ag}{x:Int}{n:Nat}(hn:l.length=n)(hl:l.length<=1000000000)(hx:¬(x<(n:Int)))(h:yx w l x w'):∃p c,Value.slice (some (Addr.mk w.heap.size 0 none)) (Int.toNat (n:Int)) (Int.toNat (n:Int))=.slice p l.length c/\Ss w' w.heap.size l (.slice p l.length c)/\Still w w':=by
 obtain⟨k,rfl,hk,hr,hs⟩:=h;have:k=l.length:=by omega
 subst this;rw[axh]at hr;rw[bW,<-hn];exact⟨_,_,rfl,Ss.made hr (aR _) hl,hs⟩
def SB{fn:FuncId}{K:FuncId->List Value->List Value->Prop}(h:K fn [] []):gj (.func (.func fn) #[] #[]) K:=h
def Told(w:World)(l:List ag)(e:Ending)(w':World):Prop:=∃p c,e=.returned (.slice p l.length c)/\Ss w' w.heap.size l (.slice p l.length c)/\Still w w'
set_option maxRecDepth 10000 in
def avV{F:Nat->Prop}{l:List Nd}{p:Option Addr}{n c:Nat}{fn:FuncId}(hv:vf.At w F l (.slice p n c))(hl:l.length<=1000000000)(hc:cY aL fn=true)(tx:Nd->ag)
  (ih:∀x∈l,∀(w1:World) (cs:List Value),Still w w1->dR w1 F x cs->an fn #[.agg ⟨cs⟩] w1 (λe w'=>e=.returned (.string (S (tx x)))/\Still w1 w')):
  an 137 #[.slice p n c,.func (.func fn) #[] #[]] w (Told w (l.map tx)):=by
 obtain⟨rfl,_⟩:=hv.len;have hm:(l.map tx).length=l.length:=ke ..;apply ajI;refine⟨by omega,by omega,by omega,by omega,K_ hm λw1 h1=>⟨yx w (l.map tx),λx _=>l.length-x.toNat,h1,?_⟩⟩;rintro x _ w2 h2;refine ax (λhx=>?_) (λhx=>?_);rotate_left
 .obtain⟨p',c',he,hS,hs⟩:=Lw hm (by omega) (aZ hx) h2
  exact⟨p',c',fT Ending.returned he,hS,hs⟩
 obtain⟨k,rfl,hk,hr,hs⟩:=h2;have hk:k<l.length:=by have:=aQ hx;omega
 obtain⟨b,cs,rfl,_,hE,hcell⟩:=(hv.still hs).get (iy hk);have hE:dR w2 F l[k] cs:=hE;obtain⟨pw,cw,pa,ca,pr,cr,po,co,pk,ck,rfl,_⟩:=hE.outs;have hcell:qb w2 (b.add (k*8)) _:=hcell;have e1:i64.wrap ((k:Int)+1)=((k+1:Nat):Int):=wI;rw[e1];have et:Int.toNat (k:Int)=k:=bW k;have hput:=λw5 (s5:Still w2 w5)=>adp (w:=w) (l:=l.map tx) (k:=k) (by omega) hr hs s5 (K:=λw'=>yx w (l.map tx) ((k+1:Nat):Int) w'/\l.length-((k+1:Nat):Int).toNat<l.length-((k:Int)).toNat) λw' h'=>⟨h',by rw[bW,bW];omega⟩;rw[et]at hput⊢;refine⟨by omega,by omega,_,_,_,_,_,_,_,_,_,_,_,_,_,_,_,_,_,_,hcell.zero,hcell 1 _ rfl,hcell 2 _ rfl,hcell 3 _ rfl,hcell 4 _ rfl,hcell 5 _ rfl,hcell 6 _ rfl,hcell 7 _ rfl,wm rfl (by simp[Value.oneCell']) λw4 r4 s4 z4=>?_⟩;refine⟨_,_,_,_,_,_,_,_,_,_,_,_,_,_,_,_,_,_,r4.ai rfl,r4.ai rfl,r4.ai rfl,r4.ai rfl,r4.ai rfl,r4.ai rfl,r4.ai rfl,r4.ai rfl,SB (ax (λ_=>?_) (λh=>by rw[hc]at h;cases h))⟩;refine(ih l[k] (kL hk) w4 _ (hs.trans s4) (hE.still s4)).mono ?_;rintro _ w5 ⟨rfl,s5⟩;have ek:(l.map tx)[k]'(by omega)=tx l[k]:=Yp ..;have hput:=hput w5 (s4.trans s5);rw[ek]at hput;exact .inl ⟨_,rfl,by omega,by omega,hput⟩
set_option maxRecDepth 10000 in
def avW{F:Nat->Prop}{l:List (List Pt)}{p:Option Addr}{n c:Nat}{fn:FuncId}(hv:wE.At w F l (.slice p n c))(hl:l.length<=1000000000)(hc:cY aL fn=true)(tx:List Pt->ag)
  (ih:∀x∈l,∀(w1:World) (v:Value),Still w w1->aHg w1 F x v->an fn #[v] w1 (λe w'=>e=.returned (.string (S (tx x)))/\Still w1 w')):
  an 136 #[.slice p n c,.func (.func fn) #[] #[]] w (Told w (l.map tx)):=by
 obtain⟨rfl,_⟩:=hv.len;have hm:(l.map tx).length=l.length:=ke ..;apply ajH;refine⟨by omega,by omega,by omega,by omega,K_ hm λw1 h1=>⟨yx w (l.map tx),λx _=>l.length-x.toNat,h1,?_⟩⟩;rintro x _ w2 h2;refine ax (λhx=>?_) (λhx=>?_);rotate_left
 .obtain⟨p',c',he,hS,hs⟩:=Lw hm (by omega) (aZ hx) h2
  exact⟨p',c',fT Ending.returned he,hS,hs⟩
 obtain⟨k,rfl,hk,hr,hs⟩:=h2;have hk:k<l.length:=by have:=aQ hx;omega
 obtain⟨b,cs,rfl,_,⟨v,rfl,hE⟩,hcell⟩:=(hv.still hs).get (iy hk);obtain⟨q,d,rfl⟩:=hE.form;have hcell:qb w2 (b.add (k*1)) _:=hcell;have e1:i64.wrap ((k:Int)+1)=((k+1:Nat):Int):=wI;rw[e1];have et:Int.toNat (k:Int)=k:=bW k;have hput:=λw5 (s5:Still w2 w5)=>adp (w:=w) (l:=l.map tx) (k:=k) (by omega) hr hs s5 (K:=λw'=>yx w (l.map tx) ((k+1:Nat):Int) w'/\l.length-((k+1:Nat):Int).toNat<l.length-((k:Int)).toNat) λw' h'=>⟨h',by rw[bW,bW];omega⟩;rw[et]at hput⊢;refine⟨by omega,by omega,_,_,_,hcell.zero,SB (ax (λ_=>?_) (λh=>by rw[hc]at h;cases h))⟩;refine(ih l[k] (kL hk) w2 _ hs hE).mono ?_;rintro _ w5 ⟨rfl,s5⟩;have ek:(l.map tx)[k]'(by omega)=tx l[k]:=Yp ..;have hput:=hput w5 s5;rw[ek]at hput;exact .inl ⟨_,rfl,by omega,by omega,hput⟩
end Go.Proofs.YtihaaoehhgmphaaGreatDoor.L.U
namespace Go.Proofs.YtihaaoehhgmphaaGreatDoor.L.U
open IntKind Go.RowKit Vc
set_option maxRecDepth 10000
variable{w:World}
def Ss.app{w0:World}{B n m:Nat}{l k:List ag}{p q:Option Addr}{c:Nat}{K:Option Addr->Nat->World->Prop}(h:Ss w B l (.slice p n c))(h0:Still w0 w)(EP:w0.heap.size<=B)(hB:B<=w.heap.size)(hk:cZ w q m k)(hs:n+m<=1000000000)
  (hK:∀p' c' w',Ss w' B (l++k) (.slice p' (n+m) c')->Still w0 w'->w.heap.size<=w'.heap.size->K p' c' w'):eW w 9 1 16 p n c q m K:=by
 obtain⟨p',c',he,ho⟩:=h;injection he with e1 e2 e3;subst e1 e2 e3;refine rT ho hB (strs k) (by rw[KS,hk.1,aHA]) (auR k) (λhm=>hk.2 hm) (by omega) (by omega) λp' c' w' ho' hm _=>?_;have hz:=hm.size;refine hK p' c' w' ⟨p',c',by rw[aHb,hk.1],?_⟩ (h0.own ho EP hm) hz;rw[KR,aHb,hk.1];exact ho'
def Ss.strs{B n:Nat}{l:List ag}{p:Option Addr}{c:Nat}(h:Ss w B l (.slice p n c)):cZ w p n l:=by obtain⟨p',c',he,ho⟩:=h;injection he with e1 e2 e3;subst e1 e2 e3;exact cZ.of ho
def atH{f:Value}{p:Option Addr}{c:Nat}:an O8 #[.slice p 0 c,f] w (Told w []):=by
 apply ajA;refine⟨by decide,by decide,by decide,by decide,K_ (l:=[]) (n:=0) rfl λw1 h1=>⟨yx w [],λ_ _=>0,h1,?_⟩⟩;rintro x _ w2 h2;refine ax (λhx=>?_) (λhx=>?_)
 .obtain⟨k,rfl,hk,_⟩:=h2
  have:=aQ hx;omega
 .obtain⟨p',c',he,hS,hs⟩:=Lw (n:=0) rfl (by decide) (aZ hx) h2
  exact⟨p',c',fT Ending.returned he,hS,hs⟩
def atI{f:Value}{p:Option Addr}{c:Nat}:an O5 #[.slice p 0 c,f] w (Told w []):=by
 apply ajw;refine⟨by decide,by decide,by decide,by decide,K_ (l:=[]) (n:=0) rfl λw1 h1=>⟨yx w [],λ_ _=>0,h1,?_⟩⟩;rintro x _ w2 h2;refine ax (λhx=>?_) (λhx=>?_)
 .obtain⟨k,rfl,hk,_⟩:=h2
  have:=aQ hx;omega
 .obtain⟨p',c',he,hS,hs⟩:=Lw (n:=0) rfl (by decide) (aZ hx) h2
  exact⟨p',c',fT Ending.returned he,hS,hs⟩
def ED(w:World)(t:ag)(e:Ending)(w':World):Prop:=e=.returned (.string (S t))/\Still w w'
def aco{B:Nat}{t:ag}{p:Option Addr}{c:Nat}(h:Ss w B [t] (.slice p 1 c))(sep:ag)(ht:t.length<=1000):an Dv #[.slice p 1 c,.string (S sep)] w (ED w t):=by have e:HB sep [t]=t:=aIk t;have:=arH h sep (by show 1<=_;decide) (by rw[e];omega);rw[e]at this;exact this
def ap_{F:Nat->Prop}{wd:List Pt}{cs:List Value}(hx:dR w F (.mk 0 false [] [wd] [] [] [] []) cs)(hp:∀{w:World} {F:Nat->Prop} {v:Value},aHg w F wd v->an aIZ #[v] w (λe w'=>e=.returned (.string (S (gA wd)))/\Still w w'))(hl:(gA wd).length<=1000):an FO #[.agg ⟨cs⟩] w (ED w (gA wd)):=by
 obtain⟨pw,cw,pa,ca,pr,cr,po,co,pk,ck,rfl,hw,ha,hr,_,_⟩:=hx.outs;apply alN;refine aO λw1 r1 s1 z1=>⟨_,_,_,r1.ai rfl,atH.mono ?_⟩;rintro _ w2 ⟨p1,c1,rfl,hS1,s2⟩;refine .inl ⟨_,_,_,rfl,_,_,_,(r1.still s2).ai rfl,atI.mono ?_⟩;rintro _ w3 ⟨p2,c2,rfl,Wi,s3⟩;refine .inl ⟨_,_,_,rfl,(hS1.still s3).app (s2.trans s3) (aR _) (by have:=s2.size;have:=s3.size;omega) Wi.strs (by decide) λp3 c3 w4 Wm s4 z4=>?_⟩;refine⟨_,_,_,(r1.still s4).ai rfl,(avW (l:=[wd]) ((hw.still s1).still s4) (show 1<=1000000000 by decide) (show cY aL aIZ=true by kernel_rfl) gA λx hx w1 v _ hE=>?_).mono ?_⟩
 .obtain rfl:=jb.1 hx
  exact hp hE
 rintro _ w5 ⟨p5,c5,rfl,hS5,s5⟩;refine .inl ⟨_,_,_,rfl,(Wm.still s5).app (s4.trans s5) (aR _) (by have:=s4.size;have:=s5.size;omega) hS5.strs (show 0+0+1<=1000000000 by decide) λp6 c6 w6 hS6 s6 z6=>?_⟩;refine Calls.mono (amo _ _ _ w6 (ED w6 (gA wd)) ?_) ?_
 .refine(aco hS6 [32] hl).mono ?_
  rintro _ w7 ⟨rfl,s7⟩;exact .inl ⟨_,rfl,rfl,s7⟩
 .rintro _ w7 ⟨rfl,s7⟩
  exact .inl ⟨_,rfl,rfl,(s1.trans s6).trans s7⟩
def afV:List Value:=[.func (.func FO) #[] #[],.func (.func YP) #[] #[],.func (.func YF) #[] #[],.func (.func Kl) #[] #[],.func (.func YG) #[] #[],.func (.func Y9) #[] #[],.func (.func Yz) #[] #[],.func (.func YQ) #[] #[],.func (.func Yr) #[] #[],.func (.func YH) #[] #[],.func (.func YR) #[] #[],.func (.func Yk) #[] #[]]
def acp{F:Nat->Prop}{x:Nd}{cs:List Value}{fn:FuncId}{t:ag}(hx:dR w F x cs)(h0:0<=x.k)(h1:x.k<4)(ht:afV[x.k.toNat]?=some (.func (.func fn) #[] #[]))(hc:cY aL fn=true)(hsp:∀(w:World) (F:Nat->Prop) (cs:List Value),dR w F x cs->an fn #[.agg ⟨cs⟩] w (ED w t)):an Ds #[.agg ⟨cs⟩] w (ED w t):=by
 have hx':=hx;obtain⟨pw,cw,pa,ca,pr,cr,po,co,pk,ck,rfl,_⟩:=hx.outs;apply al4;refine aO λw1 r1 s1 z1=>wm rfl (by simp[Value.oneCell']) λw3 r3 s3 z3=>?_;have r3:Row w3 w1.heap.size _ ⟨afV⟩:=r3;refine⟨_,(r1.still s3).ai rfl,ax (λh=>absurd (aQ h) (by omega)) (λ_=>⟨_,(r1.still s3).ai rfl,ax (λh=>absurd (aQ h) (by omega)) (λ_=>?_)⟩)⟩;have sD:=jd w3;have jh:=(s1.trans s3).trans sD;refine⟨λwq=>Still w3 wq,sD,x.k,λwq hq=>((r1.still s3).still hq).ai rfl,h0,(show x.k<((12:Nat):Int) by omega),_,rfl,λwq hq=>?_,_,_,_,_,_,_,_,_,_,_,_,_,_,_,_,_,_,_,λwq hq=>((r1.still s3).still hq).ai rfl,λwq hq=>((r1.still s3).still hq).ai rfl,λwq hq=>((r1.still s3).still hq).ai rfl,λwq hq=>((r1.still s3).still hq).ai rfl,λwq hq=>((r1.still s3).still hq).ai rfl,λwq hq=>((r1.still s3).still hq).ai rfl,λwq hq=>((r1.still s3).still hq).ai rfl,λwq hq=>((r1.still s3).still hq).ai rfl,SB (fn:=fn) (ax (λ_=>?_) (λh=>by rw[hc]at h;cases h))⟩
 .rw[bM,cL,aHA]
  exact(r3.still hq).ai ht
 refine(hsp w3.drew F _ (hx'.still jh)).mono ?_;rintro _ w4 ⟨rfl,s4⟩;have r4:=((r1.still s3).still sD).still s4;exact .inl ⟨_,rfl,_,r4.ai rfl,ax (λh=>absurd (aQ h) (by omega)) (λ_=>⟨rfl,jh.trans s4⟩)⟩
def arI{F:Nat->Prop}{wd:List Pt}{cs:List Value}(hx:dR w F (.mk 3 false [] [] [] [] [] [.mk 0 false [] [wd] [] [] [] []]) cs)(hp:∀{w:World} {F:Nat->Prop} {v:Value},aHg w F wd v->an aIZ #[v] w (λe w'=>e=.returned (.string (S (gA wd)))/\Still w w'))(hl:(gA wd).length<=1000):an Ds #[.agg ⟨cs⟩] w (ED w (gA wd)):=by
 refine acp hx (show(0:Int)<=3 by decide) (show(3:Int)<4 by decide) (fn:=Kl) rfl (by kernel_rfl) λw F cs hx=>?_;obtain⟨pw,cw,pa,ca,pr,cr,po,co,pk,ck,rfl,_,_,_,_,hk⟩:=hx.outs;apply amn;refine aO λw1 r1 s1 z1=>⟨_,_,_,r1.ai rfl,(avV (l:=[.mk 0 false [] [wd] [] [] [] []]) (hk.still s1) (show 1<=1000000000 by decide) (show cY aL Ds=true by kernel_rfl) (λ_=>gA wd) λy hy w1 cs _ hE=>?_).mono ?_⟩
 .obtain rfl:=jb.1 hy
  exact acp hE (show(0:Int)<=0 by decide) (show(0:Int)<4 by decide) (fn:=FO) rfl (by kernel_rfl) λw F cs hx=>ap_ hx hp hl
 rintro _ w2 ⟨p,c,rfl,hS,s2⟩;refine .inl ⟨_,_,_,rfl,(aco hS [59,32] hl).mono ?_⟩;rintro _ w3 ⟨rfl,s3⟩;exact .inl ⟨_,rfl,rfl,(s1.trans s2).trans s3⟩
end Go.Proofs.YtihaaoehhgmphaaGreatDoor.L.U
namespace Go.Proofs.YtihaaoehhgmphaaGreatDoor
open IntKind Go.RowKit Vc
set_option maxRecDepth 100000
variable{w w0:World}
def azH:L.Nd:=⟨3,false,[],[],[],[],[],[⟨0,false,[],[[⟨0,false,[97],[],[],[]⟩]],[],[],[],[]⟩]⟩
def aed:L.pK [97]=(azH,0):=by kernel_rfl
def ZI{g:Nat}{t:ag}(hr:Row w g 51 ⟨[.int .i64 0,.bool true,.string (S t),.string (S []),.string (S []),.slice none 0 0]⟩):L.aHg w (λ_=>True) [⟨0,true,t,[],[],[]⟩] (.slice (some ⟨g,0,none⟩) 1 1):=
 ⟨_,_,rfl,aR _,λ_=>⟨_,rfl,trivial,L.oQ.of (v:=.slice none 0 0) (λj u hu=>by rw[bM,cL];exact hr.ai hu) (L.aHg.nil _ _ _ _),trivial⟩⟩
def ao9{g:Nat}(hr:Row w g 51 ⟨[.int .i64 0,.bool true,.string (S [97]),.string (S []),.string (S []),.slice none 0 0]⟩):an aIZ #[.slice (some ⟨g,0,none⟩) 1 1] w (λe w'=>e=.returned (.string (S [39,97,39]))/\Still w w'):=by
 have h:=L.Sb (ZI hr) (by decide);have e:L.gA [⟨0,true,[97],[],[],[]⟩]=[39,97,39]:=by kernel_rfl
 rw[e]at h;exact h
def arJ(bP:aHx w):an Rv #[] w (λe w'=>e=.returned (.bool true)/\Still w w'):=by
 apply anu;refine Sn.mono ?_;rintro _ w1 ⟨rfl,hst,s1,_⟩;refine .inl ⟨_,rfl,ax (λh=>by cases h) (λ_=>?_)⟩;obtain⟨s',hex,e1,e2,e3⟩:=avG;refine(ac7 bP s1 hst gu.nil ae4 [] (fuel:=20) (by decide) aLm hex).mono ?_;rintro _ w2 ⟨⟨p1,n1,c1,cw,p2,n2,c2,p3,n3,c3,i1,i2,i3,i4,rfl⟩,_,_,s2,z2⟩;rw[e1,e2,e3];refine .inl ⟨_,_,_,_,_,_,_,_,_,_,_,_,_,_,_,_,_,rfl,aO λw3 r3 s3 z3=>?_⟩;refine bF (g:=w2.heap.size) (o:=0) r3 λw4 r4 m4 z4=>?_;have mo:Still w w4:=(s2.trans s3).box s2.size m4;refine(A.avQ (bP.still mo).env).mono ?_;rintro _ w5 ⟨⟨q,_,_,rfl⟩,s5⟩;have aH6:=mo.trans s5;refine .inl ⟨_,_,_,_,_,rfl,(arG (n:=9) (by decide) (by decide)).mono ?_⟩;rintro _ w6 ⟨⟨a6,rfl⟩,s6⟩;have nG:=aH6.trans s6;refine .inl ⟨_,_,rfl,(L.aba [97] (by rw[aed])).mono ?_⟩;rintro _ w7 ⟨cs,rfl,hn,s7⟩;rw[aed]at hn⊢;have s07:=nG.trans s7;obtain⟨pw,cw',pa,ca,pr,cr,po,co,pk,ck,rfl,_⟩:=hn.outs;refine .inl ⟨_,_,_,_,_,_,_,_,_,_,_,_,_,_,_,_,_,_,_,rfl,aO λw8 r8 s8 z8=>?_⟩;refine bF (g:=w7.heap.size) (o:=0) r8 λw9 r9 m9 z9=>?_;have pY:Still w7 w9:=s8.box (aR _) m9;have I7:=s07.trans pY;refine aO λaP aHJ iq aIt=>?_;have hA:jt aP (some ⟨w9.heap.size,0,none⟩) 1 [[101,99,104,111]]:=⟨by simp,λ_=>⟨_,_,rfl,aHJ.lt,λj u hu=>by rw[cL];exact aHJ.ai hu⟩⟩;refine(aci (fn:=aJ6) (by decide) (Ll (args:=[]) [] (by decide) (by decide)) (bP.still (I7.trans iq)) hA).mono ?_;rintro _ bg ⟨rfl,ou⟩;refine .inl ⟨_,_,_,_,rfl,aO λbI mX fX z12=>?_⟩;refine bF (g:=bg.heap.size) (o:=0) mX λaHa qH m13 aJi=>?_;have Nr:Still w9 aHa:=((iq.trans ou).trans fX).box (by have:=iq.size;have:=ou.size;omega) m13;have aBE:Still w4 aHa:=(((s5.trans s6).trans s7).trans pY).trans Nr;have q4:=r4.still aBE;refine⟨_,_,_,q4.ai rfl,q4.ai rfl,q4.ai rfl,ax (λ_=>?_) (λh=>by simp at h)⟩;refine ax (λ_=>ax (λ_=>ax (λ_=>ax (λ_=>ax (λ_=>?_) (λh=>by cases h)) (λh=>by cases h)) (λh=>by cases h)) (λh=>by cases h)) (λh=>by cases h);have q9:=r9.still Nr;refine⟨_,_,_,_,_,_,_,_,_,_,_,_,_,_,_,_,_,_,q9.ai rfl,q9.ai rfl,q9.ai rfl,q9.ai rfl,q9.ai rfl,q9.ai rfl,q9.ai rfl,q9.ai rfl,?_⟩;refine(L.U.arI (wd:=[⟨0,false,[97],[],[],[]⟩]) (hn.still (pY.trans Nr)) (λh=>L.Sb h (by decide)) (by decide)).mono ?_;rintro _ bR ⟨rfl,ji⟩;have wF:L.gA [⟨0,false,[97],[],[],[]⟩]=[97]:=by kernel_rfl
 rw[wF];refine .inl ⟨_,rfl,ax (λ_=>?_) (λh=>by cases h)⟩;have Je:=qH.still ji;refine⟨_,Je.ai rfl,ax (λ_=>?_) (λh=>by cases h)⟩;refine aO λct A8 vt I1=>(ao9 A8).mono ?_;rintro _ bX ⟨rfl,mw⟩;exact .inl ⟨_,rfl,rfl,(((I7.trans Nr).trans ji).trans vt).trans mw⟩
def pB(n:ag):Bool:=decide (L.gA [⟨0,true,n,[],[],[]⟩]=L.single n)&&(decide (L.aHf [⟨0,true,n,[],[],[]⟩]<1000000)&&(decide ((L.single n).length<=20)&&(match n with
 |[]=>false
 |c::_=>decide (decide ((c.toNat:Int)=46)=pR n))))
def azI:L.gN.all pB=true:=by kernel_rfl
structure POk(n:ag):Prop where
 pr:L.gA [⟨0,true,n,[],[],[]⟩]=L.single n
 wt:L.aHf [⟨0,true,n,[],[],[]⟩]<1000000
 sl:(L.single n).length<=20
 hd:∃b,n[0]?=some b/\decide ((b.toNat:Int)=46)=pR n
def ahb{n:ag}(h:n∈L.gN):POk n:=by
 have:=nO.1 azI n h;simp only[pB,e_,nk]at this;obtain⟨h1,h2,h3,h4⟩:=this;refine⟨h1,h2,h3,?_⟩;cases n with
 |nil=>cases h4
 |cons c r=>exact⟨c,rfl,aQ h4⟩
def adq:∀(ns:List ag) (n:ag),L.og (ns++[n])=((L.og ns++[101,99,104,111,32,62,32])++L.single n)++[10]
 |[],n=>by simp[L.og,L.Hp]
 |m::r,n=>by have h:=adq r n;rw[qP,L.og,h,L.og];simp only[j9]
def avX{l:List ag}(h:k_ l=[]):l=[]:=by
 cases l with
 |nil=>rfl
 |cons x r=>have:=fT List.length h;simp[k_]at this
def aos(bP:aHx w){l:Option Addr}{lL lC:Nat}(hl:Ii w l lL):an YO #[.slice l lL lC] w (λe w'=>e=.returned (.bool true)/\Still w w'):=by
 apply amk;refine(arJ bP).mono ?_;rintro _ w1 ⟨rfl,s1⟩;refine .inl ⟨_,rfl,ax (λh=>by cases h) (λ_=>aO λw2 r2 s2 z2=>?_)⟩;have r2:Row w2 w1.heap.size bJ ⟨strs L.gN⟩:=r2;have dD:=s1.trans s2;refine⟨λs i w3=>∃ns:List ag,i=(ns.length:Int)/\ns.length<=10/\(∀n∈ns,n∈L.gN)/\s=L.og ns/\Still w2 w3,λ_ i _=>10-i.toNat,⟨[],rfl,by decide,λn hn=>(by cases hn),rfl,Still.refl _⟩,?_⟩;rintro _ _ _ w3 ⟨ns,rfl,EE,hns,rfl,s3⟩;have jh:=dD.trans s3;have gh:=L.TK hns;refine⟨λcF=>ns.length<lL/\ns.length<10/\cF=w3,⟨λb w4=>(b=true->ns.length<lL/\ns.length<10)/\w4=w3,ax (λhx=>⟨λhy=>⟨by have:=aQ hx;omega,by have:=aQ hy;omega⟩,rfl⟩) (λ_=>⟨λh=>(by cases h),rfl⟩),?_⟩,?_⟩
 .rintro b _ w4 ⟨hb,rfl⟩
  refine ax (λh=>⟨(hb h).1,(hb h).2,rfl⟩) (λ_=>?_);obtain⟨s',hg,hall⟩:=atC hns EE;have cB:∀x∈eR s'.T,x∈L.gN:=λx hx=>hg.sJ x (G2.1 hx);have x1:=hall [] s' rfl (by decide);rw[aIk]at x1;have e4:=bP.still jh;refine(S8 e4 (L.ap6 hns EE) x1).mono ?_;rintro _ w5 ⟨a,g,_,rfl,⟨p1,n1,c1,cw,p2,n2,c2,p3,n3,c3,i1,i2,i3,i4,rfl⟩,h5,aFT,s5⟩;refine .inl ⟨_,_,_,_,_,_,_,_,_,_,_,_,_,_,_,_,_,_,rfl,wm rfl (by simp[Value.oneCell']) λw6 r6 s6 z6=>?_⟩;refine ax (λh=>by cases h) (λ_=>?_);have jx:=s5.trans s6;refine(abc e4.env jx (h5.still s6)).mono ?_;rintro _ w8 ⟨p,c,rfl,ho,h8,m8⟩;have s48:Still w4 w8:=jx.trans (R_ m8);have hL:(eR s'.T).length<=20:=by rw[BL];have:=hg.len;omega
  have ahc:∀k,(k_ (u6 ((eR s'.T).take k))).length<=60000:=λk=>TJ h8.cB k;refine .inl ⟨_,_,_,rfl,λwant i w9=>∃k:Nat,i=(k:Int)/\k<=(eR s'.T).length/\want=k_ (u6 ((eR s'.T).take k))/\w9=w8,λ_ i _=>((eR s'.T).length-i).toNat,⟨0,rfl,dU _,rfl,rfl⟩,?_⟩;rintro _ _ _ w9 ⟨k,rfl,hk,rfl,rfl⟩;have ek:i64.wrap ((k:Int)+1)=((k+1:Nat):Int):=wI;refine ax (λhx=>?_) (λhx=>?_)
  .have hx:k<(eR s'.T).length:=by have:=aQ hx;omega
   obtain⟨gl,rfl,hcl⟩:=ho.aIT hx;have hx1:=ade hx;have hlk:=ahc k;have aFU:=ahc (k+1);generalize hnm:(eR s'.T)[k]=nm at*;have hmem:nm∈L.gN:=cB nm (by rw[<-hnm];exact kL hx);have hnl:=(AL hmem).len;obtain⟨b,hb,hh⟩:=(ahb hmem).hd;rw[ek];refine⟨by omega,by omega,_,by rw[bW];exact hcl,by decide,b,hb,?_⟩;rw[hh];refine ax (λhb=>?_) (λhb=>?_)
   .have hh:pR nm=false:=by simpa using hb
    rw[hh,aH (by decide)]at hx1;refine⟨by omega,by omega,_,by rw[bW];exact hcl,by omega,by simp;omega,⟨k+1,rfl,hx,?_,rfl⟩,by dsimp only;omega⟩;rw[hx1,ada,j9]
   .have hh:pR nm=true:=by simpa using hb
    rw[hh,aN rfl]at hx1;exact⟨⟨k+1,rfl,hx,by rw[hx1],rfl⟩,by dsimp only;omega⟩
  .have hx:k=(eR s'.T).length:=by have:=aZ hx;omega
   subst hx;rw[aH0,show u6 (eR s'.T)=fM s'.T from rfl];refine⟨λx aP=>x=k_ (pM s'.T)/\aP=w9,?_,?_⟩
   .unfold pM
    refine ax (λhb=>⟨?_,rfl⟩) (λhb=>⟨?_,rfl⟩)
    .rw[aN (avX (aQ hb))]
     rfl
    .rw[aH λe=>aZ hb (by rw[e];rfl)]
   rintro _ _ aP ⟨rfl,rfl⟩;obtain⟨s2,x2,e1,e2,e3⟩:=axb hg EE;obtain⟨Wx,x3,f2⟩:=ayw hg EE;have t10:=jh.trans s48;refine⟨by simp;omega,(S8 (bP.still t10) (L.atA hns EE) (hall [L.Ib] s2 x2 (by decide))).mono ?_⟩;rintro _ bg ⟨a7,g7,_,rfl,⟨p1',m1',c1',cw',p2',m2',Wk,p3',m3',c3',j1,j2,j3,j4,rfl⟩,_,_,ou⟩;rw[e1,e2,e3];refine .inl ⟨_,_,_,_,_,_,_,_,_,_,_,_,_,_,_,_,_,_,rfl,wm rfl (by simp[Value.oneCell']) λaHa qH aHK aJi=>?_⟩;have t13:=t10.trans (ou.trans aHK);refine⟨by simp;omega,(S8 (bP.still t13) (L.avK hns EE) (hall [L.Oq] Wx x3 (by decide))).mono ?_⟩;rintro _ bR ⟨a8,g8,_,rfl,⟨aFV,aFW,aFX,aFY,aFZ,aF0,aF1,aF2,aF3,aF4,k1,k2,k3,k4,rfl⟩,_,_,ji⟩;rw[f2];refine .inl ⟨_,_,_,_,_,_,_,_,_,_,_,_,_,_,_,_,_,_,rfl,wm rfl (by simp[Value.oneCell']) λbX r16 mw Oh=>?_⟩;have t16:=t13.trans (ji.trans mw);have Je:=qH.still (ji.trans mw);refine ax (λ_=>?_) (λh=>by cases h);refine⟨_,_,_,Je.ai rfl,Je.ai rfl,Je.ai rfl,ax (λ_=>ax (λ_=>⟨rfl,t16⟩) (λhb=>?_)) (λh=>by simp at h)⟩;refine⟨_,r16.ai rfl,?_,t16⟩;have hv:fM s'.T≠[]:=λe=>aZ hb (by unfold pM;rw[aN e];rfl);have:pM s'.T=fM s'.T:=aH hv;rw[this];simp
 .rintro _ cF ⟨h1,h2,rfl⟩
  obtain⟨a,v,rfl,hv,hc⟩:=hl.still jh _ h1;have ev:i64.wrap (v:Int)=(v:Int):=wrap_i64 (by omega) (by omega);have et:Int.tmod (v:Int) 10=((v%10:Nat):Int):=by rw[OX (by omega)];exact(Int.natCast_emod _ _).symm
  have e1:i64.wrap ((ns.length:Int)+1)=((ns.length+1:Nat):Int):=wI;have hlt:v%10<L.gN.length:=Dz _ (by decide);have hgm:L.gN[v%10]?=some L.gN[v%10]:=iy hlt;have hmem:L.gN[v%10]∈L.gN:=kL hlt;generalize L.gN[v%10]=n at*;have P:=ahb hmem;have hps:=P.sl;refine⟨by simp;omega,by omega,by omega,(v:Int),by rw[bW];exact hc,by decide,?_⟩;rw[ev,et,e1,bW];refine⟨by omega,by have:L.gN.length=10:=rfl;omega,n,?_,?_⟩
  .rw[bM,cL,aHA]
   refine(r2.still s3).dh ?_;simp[strs,hgm]
  refine aO λdI I8 lp z18=>(L.Sb (ZI I8) P.wt).mono ?_;rintro _ aHr ⟨rfl,j7⟩;rw[P.pr];refine .inl ⟨_,rfl,by simp;omega,by simp;omega,⟨ns++[n],by simp,by simp;omega,λx hx=>?_,(adq ns n).symm,s3.trans (lp.trans j7)⟩,by dsimp only;omega⟩;rcases mE.1 hx with hx|hx
  .exact hns x hx
  .obtain rfl:=jb.1 hx
   exact hmem
end Go.Proofs.YtihaaoehhgmphaaGreatDoor
