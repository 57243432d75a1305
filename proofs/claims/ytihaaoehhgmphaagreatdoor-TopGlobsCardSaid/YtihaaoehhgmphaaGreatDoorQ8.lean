/- Texts of one proof, one behind the other. Conditions: as each theorem names them. -/
import Derived.Test.YtihaaoehhgmphaaGreatDoorQ7
import Derived.Tactics
import Derived.Tactics2
import Derived.Defers
import Derived.Recover
import Derived.Laws.Pointers
import Derived.Lib.IndexMore
set_option linter.all false
namespace Go.Proofs.YtihaaoehhgmphaaGreatDoor.L
open IntKind Go.RowKit Vc
def ayl(w:World):(Instr.typeAssert .nilIface 20 28 true).run aL w=.ok (.tuple #[.int .i64 0,.bool false]) w:=by kernel_rfl
def aym(w:World)(n:Int):(Instr.typeAssert (.iface 28 (.int .i64 n)) 20 28 true).run aL w=.ok (.tuple #[.int .i64 n,.bool true]) w:=by kernel_rfl
set_option maxRecDepth 4000 in
def ari(p:Addr)(w:World):
  CallsD aL 521 #[.pointer (some p)] .returning w λe u' w'=>e=.returned (.tuple #[])/\u'=.returning/\w'=w:=by
 refine callsD_of_wpS Tryz.func521 rfl λc₀ cs hu=>?_;apply wpS_seq;apply wpS_region;simp[wpOpsS,go_sem,recoverD,hu,Tryz.ntmps521,Exit.thenS];apply wpS_seq;apply wpS_region;simp[wpOpsS,go_sem,Tryz.ntmps521,Exit.thenS,ayl];apply wpS_seq;apply wpS_region;simp[wpOpsS,go_sem,Tryz.ntmps521,Exit.thenS];refine wpS_cond (t:=false) (by simp[Act.eval,Array.replicate]) ?_;simp only[l9,jq];refine wpS_of_wp (wp_skip ?_);cases c₀;simp_all [bodyPostS,results,Tryz.results521]
set_option maxRecDepth 4000 in
def ao2(p:Addr)(n:Int)(w:World)(hp:Wr w p):
  CallsD aL 521 #[.pointer (some p)] (.panicking [{v:=.iface 28 (.int .i64 n),recovered:=false}]) w λe u' w'=>e=.returned (.tuple #[])/\settle u'=.returning/\w'=w.setCell p (.int .i64 0):=by
 refine callsD_of_wpS Tryz.func521 rfl λc₀ cs hu=>?_;apply wpS_seq;apply wpS_region;simp[wpOpsS,go_sem,recoverD,hu,Tryz.ntmps521,Exit.thenS];apply wpS_seq;apply wpS_region;simp[wpOpsS,go_sem,Tryz.ntmps521,Exit.thenS,aym];apply wpS_seq;apply wpS_region;simp[wpOpsS,go_sem,Tryz.ntmps521,Exit.thenS];refine wpS_cond (t:=true) (by simp[Act.eval,Array.replicate]) ?_;simp only[pq];obtain⟨h1,h2⟩:=hp;obtain⟨v0,hc⟩:=Option.isSome_iff_exists.1 h1;apply wpS_region;simp[wpOpsS,go_sem,Tryz.ntmps521,Exit.thenS,hc,h2];cases c₀;simp_all [bodyPostS,results,Tryz.results521,settle]
def aHR(s:ag):Nat:=match fH 30 s with
 |some t=>s.length-t.length
 |none=>0
def Lj{s t:ag}(h:fH 30 s=some t):aHR s=s.length-t.length/\0<aHR s/\aHR s<=s.length:=by have:=s_ 30 _ _ h;unfold aHR;rw[h];dsimp only;omega
def ab8{w:World}(s:ag)(hl:s.length<1000000):an KF #[.string (S s)] w (λe w'=>e=.returned (.int .i64 (aHR s:Int))/\Still w w'):=by
 apply ani;refine aO λw1 r1 s1 z1=>aO λw2 r2 s2 z2=>?_;have ER:=r1.still s2;have dD:=s1.trans s2;refine(rU _).mono ?_;rintro _ w3 ⟨rfl,rfl⟩;have bad:∀{w4:World},Row w4 w.heap.size 3 ⟨[.int .i64 0]⟩->Still w w4->fH 30 s=none->
   CallsD aL Kp #[.pointer (some ⟨w.heap.size,0,none⟩)] (.panicking Ho) w4 (λed u w7=>(∃rv,ed=.returned rv)/\settle u=.returning/\∃v2:Int,w7.cell? ⟨w.heap.size,0,none⟩=some (.int .i64 v2)/\(Ending.returned (.int .i64 v2)=.returned (.int .i64 (aHR s:Int))/\Still w w7)):=by
  intro w4 r4 s4 hn;refine(ao2 ⟨w.heap.size,0,none⟩ 80 w4 (r4.wr 0 (by simp))).mono ?_;rintro e u w7 ⟨rfl,hu,rfl⟩;refine⟨⟨_,rfl⟩,hu,0,(r4.aHE 0 (.int .i64 0)).ai rfl,?_,s4.box (aR _) ((Mod.refl (λi=>i=w.heap.size) w4).setCell (p:=⟨w.heap.size,0,none⟩) (.inl rfl) _)⟩;unfold aHR;rw[hn];rfl
 by_cases hs:s=[]
 .subst hs
  rw[aH (by decide)];exact .inr ⟨_,rfl,bad ER dD rfl⟩
 rw[aN (by simpa using hs)];refine .inl ⟨rfl,(ab5 (g:=w1.heap.size) hs r2 hl).mono ?_⟩;rintro e w4 ⟨hm,h⟩;have r4:Row w4 w.heap.size 3 ⟨[.int .i64 0]⟩:=ER.mod hm (by rintro e;have:=r1.lt;omega);have s4:Still w w4:=dD.box (by omega) hm;cases hu:fH 30 s with
 |none=>rw[hu]at h;obtain⟨rfl,_⟩:=h;exact .inr ⟨_,rfl,bad r4 s4 hu⟩
 |some t=>
  rw[hu]at h;obtain⟨rfl,hsc⟩:=h;have hk:=Lj hu;refine .inl ⟨rfl,t,hsc.cell,?_⟩
  try dsimp only[zR]
  rw[show i64.wrap ((s.length:Int)-(t.length:Int))=(aHR s:Int) by rw[wrap_i64 (by omega) (by omega)];omega];refine bF r4 λw5 r5 m5 _=>?_;refine(ari _ _).mono ?_;rintro _ _ _ ⟨rfl,rfl,rfl⟩;exact⟨⟨_,rfl⟩,rfl,_,r5.ai rfl,rfl,s4.box (aR _) m5⟩
end Go.Proofs.YtihaaoehhgmphaaGreatDoor.L
namespace Go.Proofs.YtihaaoehhgmphaaGreatDoor.L
open IntKind Go.RowKit Vc
variable{w:World}
abbrev dz(w:World)(g:Nat)(s:ag)(v:Value)(q:Bool)(d:Int):Prop:=Row w g 503 ⟨[.string (S s),v,.bool q,.int .i64 d]⟩
def PS(w:World)(g B:Nat)(s:ag)(l:List Pt)(q:Bool)(d:Int):Prop:=∃v,dz w g s v q d/\iR w B l v
abbrev MP(g B:Nat)(w w':World):Prop:=Mod (λk=>k=g\/B<=k) w w'
def MP.trans{g B:Nat}{a b c:World}(h:MP g B a b)(k:MP g B b c):MP g B a c:=Mod.trans h k (λ_ h=>h) (λ_ _ h=>h)
def _root_.Go.Proofs.YtihaaoehhgmphaaGreatDoor.Still.mp{g B:Nat}{a b:World}(h:Still a b):MP g B a b:=h.weaken λ_ h=>h.elim
def MP.still{g B:Nat}{a b c:World}(h:MP g B a b)(k:Still b c):MP g B a c:=MP.trans h k.mp
def dz.text{g:Nat}{s:ag}{v:Value}{q:Bool}{d:Int}(h:dz w g s v q d):w.cell? ⟨g,0,none⟩=some (.string (S s)):=h.ai rfl
def dz.quoted{g:Nat}{s:ag}{v:Value}{q:Bool}{d:Int}(h:dz w g s v q d):w.cell? ⟨g,2,none⟩=some (.bool q):=h.ai rfl
def dz.depth{g:Nat}{s:ag}{v:Value}{q:Bool}{d:Int}(h:dz w g s v q d):w.cell? ⟨g,3,none⟩=some (.int .i64 d):=h.ai rfl
def k9(x:Pt)(b:Bool):Pt:=.mk x.k (x.q||b) x.t x.n x.o x.w
def awY(x:Pt)(b:Bool):(k9 x b).wt=x.wt:=by rw[Pt.uL,Pt.uL];rfl
def PS.still{w':World}{g B:Nat}{s:ag}{l:List Pt}{q:Bool}{d:Int}(h:PS w g B s l q d)(hs:Still w w'):PS w' g B s l q d:=by obtain⟨v,h1,h2⟩:=h;exact⟨v,h1.still hs,h2.still hs⟩
def vR{g B n:Nat}{s:ag}{l:List Pt}{v vw:Value}{q:Bool}{d:Int}{x:Pt}(hr:dz w g s v q d)(ho:iR w B l v)(hg:g<B)(hB:B<=w.heap.size)(hw:aHg w (λk=>B<=k/\k<w.heap.size/\v.ownBlock≠some k) x.w vw)(hn:n<=s.length)(hl:aHf l+x.wt<1000000000):
  an pg #[.pointer (some ⟨g,0,none⟩),Ev x vw,.int .i64 (n:Int)] w (λe w'=>e=.returned (.tuple #[])/\PS w' g B (s.drop n) (f_ l (k9 x q)) q d/\MP g B w w'):=by
 obtain⟨wp,wc,rfl⟩:=hw.form;apply alH;refine aO λw1 r1 s1 z1=>?_;have f1:=(Gm (x:=x) r1).2.1;have cy:dz w1 g s v q d:=hr.still s1;refine⟨λw4=>Row w4 w.heap.size 51 ⟨hU (k9 x q) (.slice wp x.w.length wc)⟩/\Still w w4,⟨_,f1,ax (λh=>?_) (λh=>?_)⟩,?_⟩
 .refine bF r1 λw2 r2 m2 z2=>⟨?_,s1.box (aR _) m2⟩
  have e:hU (k9 x q) (.slice wp x.w.length wc)=fF (hU x (.slice wp x.w.length wc)) 1 [.bool true]:=by rw[show k9 x q=.mk x.k true x.t x.n x.o x.w by rw[k9,h,Bool.true_or]];rfl
  rw[e];exact r2
 .refine⟨_,by rw[bM];exact cy.quoted,bF r1 λw2 r2 m2 z2=>⟨?_,s1.box (aR _) m2⟩⟩
  have e:hU (k9 x q) (.slice wp x.w.length wc)=fF (hU x (.slice wp x.w.length wc)) 1 [.bool q]:=by rw[show k9 x q=.mk x.k q x.t x.n x.o x.w by rw[k9,h,aJA]];rfl
  rw[e];exact r2
 rintro _ w4 ⟨r4,s4⟩;have sd:Still w w4.drew:=s4.cG;have hrd:=hr.still sd;have CR:=ho.still sd;obtain⟨p,c,xs,hv,hown,hcs⟩:=CR;subst hv;have CR:iR w4.drew B l (.slice p l.length c):=⟨p,c,xs,rfl,hown,hcs⟩;have rd:Row w4.drew w.heap.size 51 ⟨hU (k9 x q) (.slice wp x.w.length wc)⟩:=r4.still (jd w4);refine⟨λwq=>wq=w4.drew,rfl,p,l.length,c,?_,(k9 x q).k,(k9 x q).q,(k9 x q).t,(k9 x q).n,(k9 x q).o,wp,x.w.length,wc,?_,?_,?_,?_,?_,?_,?_⟩
 .rintro _ rfl
  rw[bM];exact hrd.ai rfl
 .rintro _ rfl;exact rd.ai rfl
 .rintro _ rfl;exact rd.ai rfl
 .rintro _ rfl;exact rd.ai rfl
 .rintro _ rfl;exact rd.ai rfl
 .rintro _ rfl;exact rd.ai rfl
 .rintro _ rfl;exact rd.ai rfl
 have hzd:=sd.size;refine(GD (x:=k9 x q) CR (by omega) ((hw.still sd).mono λk hk=>⟨hk.1,by omega,hk.2.2⟩) (by rw[awY];exact hl)).mono ?_;rintro _ w5 ⟨v5,rfl,rE,m5,aFF⟩;obtain⟨p5,c5,xs5,rfl,azg,aAD⟩:=rE;have nH:dz w5 g s (.slice p l.length c) q d:=hrd.mod m5 λe=>by have:=(CR.nu e).1;omega
 refine .inl ⟨_,_,_,rfl,?_⟩;show cA ((Addr.mk g 0 none).add 1) _ _ _ _
 rw[bM];refine bF nH λw6 r6 m6 z6=>?_;refine⟨s,r6.ai rfl,by omega,by omega,?_⟩;rw[bW];refine dL r6 (by simp[fF]) (by simp[Value.oneCell']) λw7 r7 m7 z7=>⟨rfl,⟨_,r7,?_⟩,?_⟩
 .have rE:iR w5 B (f_ l (k9 x q)) (.slice p5 (f_ l (k9 x q)).length c5):=⟨p5,c5,xs5,rfl,azg,aAD⟩
  exact(rE.mod m6 λk hk _ e=>by omega).mod m7 λk hk _ e=>by omega
 .have m5':MP g B w4.drew w5:=m5.weaken λk hk=>.inr (CR.nu hk).1
  exact((sd.mp.trans m5').trans (m6.weaken λk hk=>.inl hk)).trans (m7.weaken λk hk=>.inl hk)
def arj{P:ag->Rs (List Pt)}(_:∀s,P s≠.bad 0)(q:Bool)(s:ag):GU P q s≠.bad 0:=λh=>by cases h
def aa3{P:ag->Rs (List Pt)}(hP:∀s,P s≠.bad 0)(q:Bool)(s:ag):aHW P q s≠.bad 0:=by
 unfold aHW;split
 .split
  .intro h;cases h
  .split
   .rename_i t _ _
    cases hb:GU P q ((s.drop 2).take (s.length-t.length-3))with
    |bad k=>intro h;injection h with h;exact arj hP _ _ (hb.trans (by rw[h]))
    |ok x=>intro h;cases h
   .split<;>(intro h;cases h)
 .split
  .intro h;cases h
  .split<;>(intro h;cases h)
def Lu{one:ag->Rs (List Pt×Nat)}(ht:Ah one)(ho:∀c r,one (c::r)≠.bad 0):∀(n:Nat) (acc:List Pt) (s:ag),s.length<n->gH one n acc s≠.bad 0
 |0,_,_,h=>by omega
 |n+1,acc,[],_=>λh=>by cases h
 |n+1,acc,c::r,hn=>by
  simp only[gH];cases h1:one (c::r)with
  |bad k=>intro h;injection h with h;exact ho c r (h1.trans (by rw[h]))
  |ok x=>have h2:=ht _ _ h1;simp only[a_]at hn h2;exact Lu ht ho n _ _ (by rw[j_,a_];omega)
def aKZ{P:ag->Rs (List Pt)}(hP:∀s,P s≠.bad 0)(c:UInt8)(r:ag):nT P (c::r)≠.bad 0:=by
 simp only[nT];split
 .cases hd:aHW P true (c::r)with
  |bad k=>intro h;injection h with h;exact aa3 hP _ _ (hd.trans (by rw[h]))
  |ok x=>intro h;cases h
 .split<;>(intro h;cases h)
def awZ{P:ag->Rs (List Pt)}(hP:∀s,P s≠.bad 0)(s:ag):qt P s≠.bad 0:=by
 unfold qt;split
 .intro h;cases h
 .exact Lu (F_ P) (aKZ hP) _ _ _ (lB _)
def ab9{P:ag->Rs (List Pt)}(hP:∀s,P s≠.bad 0)(c:UInt8)(r:ag):aIE P (c::r)≠.bad 0:=by
 simp only[aIE];split
 .cases hd:aHW P false (c::r)with
  |bad k=>intro h;injection h with h;exact aa3 hP _ _ (hd.trans (by rw[h]))
  |ok x=>intro h;cases h
 .split
  .split
   .intro h;cases h
   .rename_i t _
    split
    .intro h;cases h
    .split
     .cases hd:qt P (r.take (r.length-t.length-1))with
      |bad k=>intro h;injection h with h;exact awZ hP _ (hd.trans (by rw[h]))
      |ok x=>intro h;cases h
     .intro h;cases h
  .intro h;cases h
def B1:∀(L:Nat) (s:ag),aHz L s≠.bad 0
 |0,s=>λh=>by cases h
 |L+1,s=>Lu (Rx _) (ab9 (B1 L)) _ _ _ (lB _)
def yq(w:World)(s:ag)(L:Nat)(e:Ending)(w':World):Prop:=(match aHz L s with
 |.ok l=>∃v,e=.returned (.tuple #[v,.int .i64 0])/\aHg w' (λk=>w.heap.size<=k/\k<w'.heap.size) l v
 |.bad k=>e=.returned (.tuple #[.slice none 0 0,.int .i64 (k:Int)]))/\Still w w'
def ayn(L:Nat):Prop:=∀(w:World) (s:ag),s.length<1000000->123∉s->an aKU #[.string (S s),.int .i64 (31-(L:Int))] w (yq w s L)
def aJP(w:World)(g B:Nat)(l:List Pt)(q:Bool)(d:Int)(s:ag)(x:Rs (Pt×Nat))(e:Ending)(w':World):Prop:=(match x with
 |.ok p=>e=.returned (.int .i64 0)/\PS w' g B (s.drop p.2) (f_ l p.1) q d
 |.bad k=>e=.returned (.int .i64 (k:Int))/\∃s' v',dz w' g s' v' q d)/\MP g B w w'
def ao3{c:UInt8}{r t:ag}(hc:c=40\/c=123)(h:fH 30 (36::c::r)=some t):t.length+3<=(36::c::r).length:=by
 rcases hc with rfl|rfl
 .have h:dV 29 41 r=some t:=h
  have:=aI0 _ _ _ _ h;simp only[a_];omega
 .have h:dV 29 125 r=some t:=h
  have:=aI0 _ _ _ _ h;simp only[a_];omega
def aoo{P:ag->Rs (List Pt)}{q:Bool}{c:UInt8}{r:ag}(hc:c=40\/c=123):aHW P q (36::c::r)=(match fH 30 (36::c::r)with
  |none=>.bad 90
  |some _=>if c=123 then(GU P q (r.take (aHR (36::c::r)-3))).and λp=>.ok (p,aHR (36::c::r))
   else if 4<aHR (36::c::r)/\(36::c::r)[2]?=some 40/\(36::c::r)[aHR (36::c::r)-2]?=some 41 then .ok (.mk 3 q (((36::c::r).drop 3).take (aHR (36::c::r)-5)) [] [] [],aHR (36::c::r))
   else .ok (.mk 2 q (r.take (aHR (36::c::r)-3)) [] [] [],aHR (36::c::r))):=by
 unfold aHW;have hh:((36::c::r:ag).drop 1).head?=some 40\/((36::c::r:ag).drop 1).head?=some 123:=by
  rcases hc with rfl|rfl
  .exact .inl rfl
  .exact .inr rfl
 rw[aN hh];cases hu:fH 30 (36::c::r)with
 |none=>rfl
 |some t=>
  have:=(Lj hu).1;rw[this];have e:(((36::c::r:ag).drop 1).head?=some 123)=(c=123):=by show(some c=some 123)=_;rw[FG]
  simp only[e];rfl
def aa4(s:ag)(n a k:Nat)(hk:k<=n-a):((s.take n).drop a).take k=(s.drop a).take k:=by rw[List.drop_take,QK,Dq hk]
def S5{s:ag}{n i:Nat}(h:i<n):(s.take n)[i]?=s[i]?:=by rw[aJ1,aN h]
def aK0{s:ag}{i:Nat}{b c:UInt8}(h:s[i]?=some b):(s[i]?=some c)↔((b.toNat:Int)=(c.toNat:Int)):=by rw[h,FG];exact ey.symm
set_option maxHeartbeats 1000000 in
def avt{L:Nat}{g B:Nat}{c:UInt8}{r:ag}(nb:123∉(36::c::r:ag)){l:List Pt}{q:Bool}(hs:PS w g B (36::c::r) l q (30-(L:Int)))(hg:g<B)(hB:B<=w.heap.size)(hc:c=40\/c=123)(hl:(36::c::r).length<1000000)(hw:aHf l+12*(36::c::r).length<500000000):
  an Qc #[.pointer (some ⟨g,0,none⟩)] w (aJP w g B l q (30-(L:Int)) (36::c::r) (aHW (aHz L) q (36::c::r))):=by
 obtain⟨v,hr,ho⟩:=hs;apply ak9;refine⟨_,hr.text,(ab8 _ hl).mono ?_⟩;rintro _ w1 ⟨rfl,s1⟩;have cy:dz w1 g _ v q _:=hr.still s1;have mS:=ho.still s1;rw[aoo hc];refine .inl ⟨_,rfl,?_⟩;cases hu:fH 30 (36::c::r)with
 |none=>
  have h0:aHR (36::c::r)=0:=by unfold aHR;rw[hu]
  rw[h0];exact ax (λ_=>⟨⟨rfl,_,_,cy⟩,s1.mp⟩) (λh=>absurd (aZ h) (by decide))
 |some t=>
  obtain⟨h1,h2,h3⟩:=Lj hu;have h4:=ao3 hc hu;have h5:3<=aHR (36::c::r):=by omega
  generalize aHR (36::c::r)=n at h1 h2 h3 h5;dsimp only;have e1:i64.wrap ((n:Int)-1)=((n-1:Nat):Int):=wI;have e2:i64.wrap ((n:Int)-2)=((n-2:Nat):Int):=wI;have htn:((36::c::r).take n).length=n:=by rw[eZ];omega
  refine ax (λh=>absurd (aQ h) (by omega)) (λ_=>⟨_,cy.text,by omega,by omega,by decide,c,?_,?_⟩)
  .rw[bW]
   rw[S5 (show Int.toNat 1<n by show 1<n;omega)];rfl
  rw[bW,e1,e2];have zz:=s1.size
  -- a part of its own is put
  have put:∀(x:Pt) (w6:World),w6=w1->x.q=false->x.w=[]->x.wt<=12*(36::c::r).length+20->an pg #[.pointer (some ⟨g,0,none⟩),Ev x (.slice none 0 0),.int .i64 (n:Int)] w6 (λed w7=>(ed=.returned (.tuple #[])/\aJP w g B l q (30-(L:Int)) (36::c::r) (.ok (.mk x.k q x.t x.n x.o x.w,n)) (.returned (.int .i64 0)) w7)\/(∃ch,ed=.panicked ch/\aJP w g B l q (30-(L:Int)) (36::c::r) (.ok (.mk x.k q x.t x.n x.o x.w,n)) (.panicked ch) w7)):=by
   rintro x _ rfl hq Od hwt;refine(vR (x:=x) (n:=n) cy mS hg (by omega) (by rw[Od];exact aHg.nil _ _ _ _) h3 (by omega)).mono ?_;rintro _ w7 ⟨rfl,h7,m7⟩;have e:k9 x q=.mk x.k q x.t x.n x.o x.w:=by rw[k9,hq,aJA]
   rw[e]at h7;exact .inl ⟨rfl,⟨rfl,h7⟩,s1.mp.trans m7⟩
  refine ax (λh=>?_) (λh=>?_)
  .have E0:c=123:=ey.1 (aQ h)
   subst E0;exact absurd (by simp) nb
  .have E0:¬c=123:=λe=>aZ h (ey.2 e)
   rw[aH E0];refine⟨λb w6=>w6=w1/\(b=true↔(4<n/\(36::c::r)[2]?=some 40/\(36::c::r)[n-2]?=some 41)),ax (λh6=>?_) (λh6=>⟨rfl,λe=>(by cases e),λe=>?_⟩),?_⟩
   .have h6:4<n:=by have:=aQ h6;omega
    obtain⟨b1,gy⟩:∃b1,(36::c::r)[2]?=some b1:=⟨_,iy (by omega)⟩;obtain⟨b2,fO⟩:∃b2,(36::c::r)[n-2]?=some b2:=⟨_,iy (by omega)⟩;refine⟨by decide,b1,by rw[S5 (show Int.toNat 2<n by show 2<n;omega)];exact gy,ax (λh7=>⟨by omega,b2,by rw[bW,S5 (by omega)];exact fO,rfl,?_⟩) (λh7=>⟨rfl,λe=>(by cases e),λe=>?_⟩)⟩
    .rw[nk,aK0 gy,aK0 fO]
     exact⟨λe=>⟨h6,aQ h7,e⟩,λe=>e.2.2⟩
    .rw[aK0 gy]at e
     exact absurd e.2.1 (aZ h7)
   .have:=aZ h6
    omega
   .rintro b _ w6 ⟨rfl,hb⟩
    refine ax (λh8=>?_) (λh8=>?_)
    .have h9:=hb.1 h8
     rw[aN h9];have ht:((((36::c::r:ag).take n).drop (Int.toNat 3)).take (Int.toNat ((n-2:Nat):Int)-Int.toNat 3))=((36::c::r).drop 3).take (n-5):=by
      rw[bW];show((((36::c::r:ag).take n).drop 3).take (n-2-3))=_
      rw[aa4 _ _ _ _ (by omega),show n-2-3=n-5 by omega]
     rw[ht];exact⟨by decide,by omega,by omega,put (.mk 3 false (((36::c::r).drop 3).take (n-5)) [] [] []) w6 rfl rfl rfl (by simp only[Pt.wt,aHf,cq,eZ];omega)⟩
    .rw[aH λh9=>by rw[hb.2 h9]at h8;cases h8]
     have ht:((((36::c::r:ag).take n).drop (Int.toNat 2)).take (Int.toNat ((n-1:Nat):Int)-Int.toNat 2))=r.take (n-3):=by
      rw[bW];show((((36::c::r:ag).take n).drop 2).take (n-1-2))=_
      rw[aa4 _ _ _ _ (by omega),show n-1-2=n-3 by omega];rfl
     rw[ht];exact⟨by decide,by omega,by omega,put (.mk 2 false (r.take (n-3)) [] [] []) w6 rfl rfl rfl (by simp only[Pt.wt,aHf,cq,eZ];omega)⟩
def apU(c:UInt8):([48,49,50,51,52,53,54,55,56,57,35,63,64,42]:ag).contains c=Ua c:=by
 have h:∀n:Nat,n<256->([48,49,50,51,52,53,54,55,56,57,35,63,64,42]:ag).contains (UInt8.ofNat n)=Ua (UInt8.ofNat n):=by decide+kernel
 have:=h c.toNat c.toNat_lt;rwa[Qf]at this
def ae0(x:UInt8)(r:ag):pf [x] r=decide (r.head?=some x):=by
 rw[KH];cases r with
 |nil=>rfl
 |cons c r=>rw[aIV];simp[List.isPrefixOf];exact eq_comm
set_option maxHeartbeats 1000000 in
def atd{L:Nat}{g B:Nat}{r:ag}(nb:123∉(36::r:ag)){l:List Pt}{q:Bool}(hs:PS w g B (36::r) l q (30-(L:Int)))(hg:g<B)(hB:B<=w.heap.size)(hl:(36::r).length<1000000)(hw:aHf l+12*(36::r).length<500000000):
  an PZ #[.pointer (some ⟨g,0,none⟩)] w (aJP w g B l q (30-(L:Int)) (36::r) (aHW (aHz L) q (36::r))):=by
 have hs':=hs;obtain⟨v,hr,ho⟩:=hs;simp only[a_]at hl hw;apply akN;have e1:(36::r:ag).drop (Int.toNat 1)=r:=rfl;refine⟨_,hr.text,by decide,by simp only[a_];omega,?_⟩;rw[e1];refine(Sp r (by omega)).mono ?_;rintro _ w1 ⟨rfl,s1⟩;have hnl:=vP r
 -- what the name is
 refine .inl ⟨_,rfl,λnm w4=>nm=r.take (if 0<bT r then bT r else nW r)/\Still w w4,⟨λb w3=>(b=true↔bT r=0/\0<nW r)/\Still w w3,ax (λh=>ax (λh2=>?_) (λh2=>?_)) (λh=>?_),?_⟩,?_⟩
 .have h:r.take (bT r)=[]:=aQ h
  rw[take_nil hnl]at h;have h2:¬r=[]:=nt h2;obtain⟨c,y,rfl⟩:=aJl h2;refine⟨by decide,c,rfl,(index_spec _ c).mono ?_⟩;rintro _ w2 ⟨⟨n,rfl,hn⟩,rfl⟩;rw[apU]at hn;refine .inl ⟨_,rfl,?_,s1⟩;rw[hn];simp only[nW];refine⟨λe=>⟨h,by rw[aN e];decide⟩,λe=>?_⟩;have:=e.2;split at this;·assumption
  .omega
 .have h2:r=[]:=nf h2
  subst h2;exact⟨⟨λe=>(by cases e),λe=>absurd e.2 (by decide)⟩,s1⟩
 .have h:¬r.take (bT r)=[]:=aZ h
  rw[take_nil hnl]at h;exact⟨⟨λe=>(by cases e),λe=>absurd e.1 h⟩,s1⟩
 .rintro b _ w3 ⟨hb,s3⟩
  refine ax (λh=>?_) (λh=>?_)
  .have hh:=hb.1 h
   have h1:=abE r;have h2:=SS r;refine⟨by decide,by omega,?_,s3⟩;rw[aH (by omega),show nW r=1 by omega];rfl
  .refine⟨?_,s3⟩
   by_cases h0:0<bT r
   .rw[aN h0]
   .have:¬0<nW r:=λe=>by rw[hb.2 ⟨by omega,e⟩]at h;cases h
    rw[aH h0];congr 1;omega
 rintro _ _ w4 ⟨rfl,s4⟩;refine⟨λb w7=>(b=true↔r.head?=some 40\/r.head?=some 123)/\Still w w7,(Zc r [40]).mono ?_,?_⟩
 .rintro _ w5 ⟨rfl,rfl⟩
  rw[ae0];refine .inl ⟨_,rfl,ax (λh=>⟨?_,s4⟩) (λh=>(Zc r [123]).mono ?_)⟩
  .rw[h]
   exact⟨λ_=>.inl (aQ h),λ_=>rfl⟩
  .rintro _ w6 ⟨rfl,rfl⟩
   rw[ae0];refine .inl ⟨_,rfl,?_,s4⟩;rw[nk];exact⟨.inr,λe=>e.resolve_left (aZ h)⟩
 rintro b _ w7 ⟨hb,s7⟩;have hz:=s7.size;refine ax (λh=>?_) (λh=>?_)
 .have hh:=hb.1 h
  obtain⟨c,y,rfl⟩:∃c y,r=c::y:=by
   cases r with
   |nil=>rcases hh with e|e<;>cases e
   |cons c y=>exact⟨c,y,rfl⟩
  have hc:c=40\/c=123:=by simpa using hh
  refine(avt nb (hs'.still s7) hg (by omega) hc (by simp only[a_]at hl⊢;omega) (by simp only[a_]at hw⊢;omega)).mono ?_;rintro e8 w8 ⟨h8,m8⟩;cases hd:aHW (aHz L) q (36::c::y)with
  |ok p=>rw[hd]at h8;obtain⟨rfl,h9⟩:=h8;exact .inl ⟨_,rfl,⟨rfl,h9⟩,s7.mp.trans m8⟩
  |bad k=>rw[hd]at h8;obtain⟨rfl,h9⟩:=h8;exact .inl ⟨_,rfl,⟨rfl,h9⟩,s7.mp.trans m8⟩
 have hno:¬(r.head?=some 40\/r.head?=some 123):=λe=>by rw[hb.2 e]at h;cases h
 have wP:dz w7 g _ v q _:=hr.still s7;have yR:=ho.still s7;have put:∀(x:Pt) (n:Nat),x.q=false->x.w=[]->x.wt<=12*(r.length+1)+20->n<=r.length+1->aHW (aHz L) q (36::r)=.ok (.mk x.k q x.t x.n x.o x.w,n)->an pg #[.pointer (some ⟨g,0,none⟩),Ev x (.slice none 0 0),.int .i64 (n:Int)] w7 (λed w9=>(ed=.returned (.tuple #[])/\aJP w g B l q (30-(L:Int)) (36::r) (aHW (aHz L) q (36::r)) (.returned (.int .i64 0)) w9)\/(∃ch,ed=.panicked ch/\aJP w g B l q (30-(L:Int)) (36::r) (aHW (aHz L) q (36::r)) (.panicked ch) w9)):=by
  intro x n hq Od hwt hn hd;refine(vR (x:=x) (n:=n) wP yR hg (by omega) (by rw[Od];exact aHg.nil _ _ _ _) (by simp only[a_];omega) (by omega)).mono ?_;rintro _ w9 ⟨rfl,h9,m9⟩;rw[hd];have e:k9 x q=.mk x.k q x.t x.n x.o x.w:=by rw[k9,hq,aJA]
  rw[e]at h9;exact .inl ⟨rfl,⟨rfl,h9⟩,s7.mp.trans m9⟩
 have hd0:aHW (aHz L) q (36::r)=if 0<bT r then .ok (.mk 1 q [] (r.take (bT r)) [] [],bT r+1)else if 0<nW r then .ok (.mk 1 q [] (r.take 1) [] [],2)else .ok (.mk 0 q [36] [] [] [],1):=by unfold aHW;simp only[aJY,FQ];rw[aH hno]
 have aFG:=abE r;have aFH:=SS r;refine ax (λh5=>?_) (λh5=>?_)
 .have h5:¬r.take (if 0<bT r then bT r else nW r)=[]:=nt h5
  rw[take_nil (by split<;>omega)]at h5;have hlen:(r.take (if 0<bT r then bT r else nW r)).length=(if 0<bT r then bT r else nW r):=by rw[eZ];split<;>omega
  rw[hlen,show i64.wrap (1+((if 0<bT r then bT r else nW r:Nat):Int))=(((if 0<bT r then bT r else nW r)+1:Nat):Int) by rw[wrap_i64 (by omega) (by split<;>omega)];omega]
  by_cases h0:0<bT r
  .rw[aN h0]at h5⊢
   exact put (.mk 1 false [] (r.take (bT r)) [] []) (bT r+1) rfl rfl (by simp only[Pt.wt,aHf,cq,eZ];omega) (by omega) (by rw[hd0,aN h0];rfl)
  .rw[aH h0]at h5⊢
   have h6:nW r=1:=by omega
   rw[h6];exact put (.mk 1 false [] (r.take 1) [] []) 2 rfl rfl (by simp only[Pt.wt,aHf,cq,eZ];omega) (by omega) (by rw[hd0,aH h0,aN (by omega)];rfl)
 .have h5:r.take (if 0<bT r then bT r else nW r)=[]:=nf h5
  rw[take_nil (by split<;>omega)]at h5;have h6:¬0<bT r:=λe=>by rw[aN e]at h5;omega
  rw[aH h6]at h5;exact put (.mk 0 false [36] [] [] []) 1 rfl rfl (by simp only[Pt.wt,aHf,cq,a_];omega) (by omega) (by rw[hd0,aH h6,aH (by omega)];rfl)
def Ay(w:World)(g B:Nat)(l:List Pt)(q:Bool)(d:Int)(s:ag)(x:Rs (List Pt×Nat))(e:Ending)(w':World):Prop:=(match x with
 |.ok p=>e=.returned (.int .i64 0)/\PS w' g B (s.drop p.2) (p.1.foldl f_ l) q d
 |.bad k=>e=.returned (.int .i64 (k:Int))/\∃s' v',dz w' g s' v' q d)/\MP g B w w'
def aJP.one{g B:Nat}{l:List Pt}{q:Bool}{d:Int}{s:ag}{x:Rs (Pt×Nat)}{e:Ending}{w':World}(h:aJP w g B l q d s x e w'):Ay w g B l q d s (x.and λy=>.ok ([y.1],y.2)) e w':=by
 cases x with
 |ok p=>exact h
 |bad k=>exact h
def ia(q:Bool)(L:Nat):ag->Rs (List Pt×Nat):=if q=true then nT (aHz L)else aIE (aHz L)
def aa5(q:Bool)(L:Nat):Ah (ia q L):=by
 unfold ia;split
 .exact F_ _
 .exact Rx _
def ark(q:Bool)(L:Nat):Bears (ia q L):=by
 unfold ia;split
 .exact Zx (L_ L)
 .exact Zy (L_ L)
def aw0(q:Bool)(L:Nat)(c:UInt8)(r:ag):ia q L (c::r)≠.bad 0:=by
 unfold ia;split
 .exact aKZ (B1 L) c r
 .exact ab9 (B1 L) c r
def apV(q:Bool)(L:Nat)(r:ag):ia q L (36::r)=(aHW (aHz L) q (36::r)).and λy=>.ok ([y.1],y.2):=by
 cases q
 .simp only[ia,aIE,l9,jq,pq]
 .simp only[ia,nT,pq]
def ate{one:ag->Rs (List Pt×Nat)}(ht:Ah one)(l:List Pt)(c:UInt8)(r:ag):gH one ((c::r).length+1) l (c::r)=(one (c::r)).and λx=>gH one (((c::r).drop x.2).length+1) (x.1.foldl f_ l) ((c::r).drop x.2):=by
 show(one (c::r)).and (λx=>gH one (c::r).length (x.1.foldl f_ l) ((c::r).drop x.2))=_;cases h:one (c::r)with
 |bad k=>rfl
 |ok x=>have h2:=ht _ _ h;simp only[Rs.and];refine aaE ht _ _ _ _ ?_ (lB _);rw[j_];omega
def aJN(g:Nat)(w:World):Nat:=match w.cell? ⟨g,0,none⟩with
 |some (.string s)=>s.size
 |_=>0
def dz.len{g:Nat}{s:ag}{v:Value}{q:Bool}{d:Int}(h:dz w g s v q d):aJN g w=s.length:=by unfold aJN;rw[h.text];rfl
def ad3(w:World)(g B:Nat)(q:Bool)(d:Int)(L:Nat)(l:List Pt)(s:ag)(e:Ending)(w':World):Prop:=(match gH (ia q L) (s.length+1) l s with
 |.ok l'=>e=.returned (.int .i64 0)/\PS w' g B [] l' q d
 |.bad k=>e=.returned (.int .i64 (k:Int))/\∃s' v',dz w' g s' v' q d)/\MP g B w w'
def ae1(L:Nat):Prop:=∀(w:World) (g B:Nat) (c:UInt8) (r:ag) (l:List Pt),PS w g B (c::r) l false (30-(L:Int))->g<B->B<=w.heap.size->(c=92\/c=39\/c=34)->(c::r).length<1000000->aHf l+12*(c::r).length<500000000->123∉(c::r:ag)->
 an Qb #[.pointer (some ⟨g,0,none⟩)] w (Ay w g B l false (30-(L:Int)) (c::r) (aIE (aHz L) (c::r)))
def aa6(c:UInt8):([36,96,34,92]:ag).contains c=true↔(c=36\/c=96\/c=34\/c=92):=by simp
def arl{L g B:Nat}{c:UInt8}{r:ag}{l:List Pt}{d:Int}(hs:PS w g B (c::r) l true d)(hc:c≠36)(hg:g<B)(hB:B<=w.heap.size)(hl:(c::r).length<1000000)(hw:aHf l+12*(c::r).length<500000000):
  an PI #[.pointer (some ⟨g,0,none⟩)] w (λe w'=>∃b:Bool,e=.returned (.bool b)/\(b=true->Ay w g B l true d (c::r) (nT (aHz L) (c::r)) (.returned (.int .i64 0)) w')/\(b=false->w'=w/\nT (aHz L) (c::r)=.ok ([tx true [c]],1))):=by
 obtain⟨v,hr,ho⟩:=hs;simp only[a_]at hl hw;apply akq;have no:¬(c=92/\(r.head?=some 36\/r.head?=some 96\/r.head?=some 34\/r.head?=some 92))->(∃b:Bool,Ending.returned (.bool false)=.returned (.bool b)/\(b=true->Ay w g B l true d (c::r) (nT (aHz L) (c::r)) (.returned (.int .i64 0)) w)/\(b=false->w=w/\nT (aHz L) (c::r)=.ok ([tx true [c]],1))):=by intro h;refine⟨false,rfl,λe=>(by cases e),λ_=>⟨rfl,?_⟩⟩;simp only[nT];rw[aH hc,aH h]
 refine⟨_,hr.text,ax (λh=>?_) (λh=>⟨_,hr.text,by decide,c,rfl,ax (λh2=>?_) (λh2=>?_)⟩)⟩
 .have h:=aQ h
  simp only[a_]at h;have:r=[]:=mC (by omega);subst this;exact no λe=>by rcases e.2 with e|e|e|e<;>cases e
 .have h2:¬c=92:=λe=>nt h2 (ey.2 e)
  exact no λe=>h2 e.1
 .have h2:c=92:=ey.1 (nf h2)
  subst h2;have h:=aZ h;simp only[a_]at h;obtain⟨b,y,rfl⟩:∃b y,r=b::y:=by
   cases r with
   |nil=>simp at h
   |cons b y=>exact⟨b,y,rfl⟩
  refine⟨_,hr.text,by decide,b,rfl,(index_spec _ b).mono ?_⟩;rintro _ w1 ⟨⟨n,rfl,hn⟩,rfl⟩;have hd:nT (aHz L) (92::b::y)=if(b=36\/b=96\/b=34\/b=92)then .ok ([tx true [b]],2)else .ok ([tx true [92]],1):=by simp[nT]
  refine .inl ⟨_,rfl,ax (λh3=>?_) (λh3=>⟨_,hr.text,by decide,by decide,by simp only[a_];omega,?_⟩)⟩
  .have h3:n<0:=aQ h3
   have h4:¬([36,96,34,92]:ag).contains b=true:=by rw[<-hn,nk];omega
   rw[aa6]at h4;exact no λe=>h4 (by simpa using e.2)
  .have h3:¬n<0:=aZ h3
   have h4:([36,96,34,92]:ag).contains b=true:=by rw[<-hn,nk];omega
   rw[aa6]at h4;refine(vR (x:=tx false [b]) (vw:=.slice none 0 0) (n:=2) hr ho hg hB (aHg.nil _ _ _ _) (by simp only[a_];omega) (by rw[yh];simp only[a_,cq]at hw⊢;omega)).mono ?_;rintro _ w2 ⟨rfl,h2,m2⟩;refine .inl ⟨rfl,true,rfl,λ_=>?_,λe=>(by cases e)⟩;rw[hd,aN h4];exact⟨⟨rfl,h2⟩,m2⟩
set_option maxHeartbeats 1000000 in
def ae2{L:Nat}(hL:L<=30){q:Bool}(hq:q=false->ae1 L){g B:Nat}{s:ag}{l:List Pt}(hs:PS w g B s l q (30-(L:Int)))(hg:g<B)(hB:B<=w.heap.size)(hl:s.length<1000000)(hw:aHf l+12*s.length<500000000)(nb:123∉s):
  an J5 #[.pointer (some ⟨g,0,none⟩)] w (ad3 w g B q (30-(L:Int)) L l s):=by
 apply alG;refine⟨λex w1=>((∃s1 l1,ex=0/\PS w1 g B s1 l1 q (30-(L:Int))/\gH (ia q L) (s1.length+1) l1 s1=gH (ia q L) (s.length+1) l s/\aHf l1+12*s1.length<=aHf l+12*s.length/\s1<:+s)\/(∃(k:Nat) (s':ag) (v':Value),k≠0/\ex=(k:Int)/\gH (ia q L) (s.length+1) l s=.bad k/\dz w1 g s' v' q (30-(L:Int))))/\MP g B w w1,
  λex w1=>if ex=0 then 1+aJN g w1 else 0,⟨.inl ⟨s,l,rfl,hs,rfl,aR _,sZ _⟩,Mod.refl _ _⟩,?_⟩
 rintro ex _ w1 ⟨h1|⟨k,s',v',hk,rfl,hT,cy⟩,m1⟩;rotate_left
 .refine⟨_,cy.text,ax (λ_=>ax (λh=>absurd (aQ h) (by omega)) (λ_=>?_)) (λ_=>?_)⟩
  .refine⟨?_,m1⟩
   rw[hT];exact⟨rfl,_,_,cy⟩
  .refine⟨?_,m1⟩
   rw[hT];exact⟨rfl,_,_,cy⟩
 obtain⟨s1,l1,rfl,hs1,hT,hw1,hl1⟩:=h1;have IG:=hl1.length_le;have AF:=hs1;obtain⟨v1,cy,mS⟩:=hs1;have hz:=m1.size;refine⟨_,cy.text,ax (λhne=>?_) (λhe=>?_)⟩;rotate_left
 .have he:s1=[]:=nf he
  subst he;refine⟨?_,m1⟩;rw[<-hT];exact⟨rfl,AF⟩
 have hne:s1≠[]:=nt hne;obtain⟨c,r,rfl⟩:=aJl hne;have ve:123∉(c::r:ag):=λe=>nb (hl1.subset e)
 -- what a taking comes to, for the loop
 have next:∀(e:Ending) (w2:World),Ay w1 g B l1 q (30-(L:Int)) (c::r) (ia q L (c::r)) e w2->∃n:Int,e=.returned (.int .i64 n)/\(((∃s1 l1,n=0/\PS w2 g B s1 l1 q (30-(L:Int))/\gH (ia q L) (s1.length+1) l1 s1=gH (ia q L) (s.length+1) l s/\aHf l1+12*s1.length<=aHf l+12*s.length/\s1<:+s)\/(∃(k:Nat) (s':ag) (v':Value),k≠0/\n=(k:Int)/\gH (ia q L) (s.length+1) l s=.bad k/\dz w2 g s' v' q (30-(L:Int))))/\MP g B w w2)/\(if n=0 then 1+aJN g w2 else 0)<(if(0:Int)=0 then 1+aJN g w1 else 0):=by
  rintro e w2 ⟨h2,m2⟩;rw[ate (aa5 q L)]at hT;rw[aN rfl,cy.len];cases ho:ia q L (c::r)with
  |ok x=>rw[ho]at h2 hT;obtain⟨rfl,hs2⟩:=h2;have ht:=aa5 q L _ _ ho;have hb:=ark q L _ _ ho;have hf:=LK x.1 l1;have hdl:((c::r).drop x.2).length=(c::r).length-x.2:=j_;refine⟨0,rfl,⟨.inl ⟨_,_,rfl,hs2,hT,by omega,(List.drop_suffix _ _).trans hl1⟩,m1.trans m2⟩,?_⟩;obtain⟨v2,hr2,_⟩:=hs2;rw[aN rfl,hr2.len];omega
  |bad k=>rw[ho]at h2 hT;obtain⟨rfl,s',v',hr2⟩:=h2;have hk:k≠0:=λe=>aw0 q L c r (by rw[ho,e]);refine⟨_,rfl,⟨.inr ⟨k,s',v',hk,rfl,hT.symm,hr2⟩,m1.trans m2⟩,?_⟩;rw[aH (by omega)];omega
 have hlc:(c::r).length<1000000:=by omega
 have Oe:aHf l1+12*(c::r).length<500000000:=by omega
 refine ax (λ_=>⟨_,cy.text,by decide,c,rfl,ax (λA_=>?_) (λA_=>?_)⟩) (λh=>absurd rfl (aZ h))
 .have A_:c=36:=ey.1 (aQ A_)
  subst A_;refine(atd ve AF hg (by omega) hlc Oe).mono ?_;intro e w2 h2;have:=aJP.one h2;rw[<-apV]at this;obtain⟨n,he,hi,hm⟩:=next e w2 this;exact .inl ⟨n,he,hi,hm⟩
 have A_:¬c=36:=λe=>aZ A_ (ey.2 e)
 -- one byte is put
 have byte:∀(w5:World),w5=w1->ia q L (c::r)=.ok ([tx q [c]],1)->an pg #[.pointer (some (Addr.mk g 0 none)),(.agg #[(.int .i64 0),(.bool false),(.string (S ((c::r:ag).take (Int.toNat (1:Int))))),(.string (S ([]:List UInt8))),(.string (S ([]:List UInt8))),(.slice none 0 0)]),(.int .i64 (1:Int))] w5 (λed w7=>(ed=.returned (.tuple #[])/\(((∃s1 l1,(0:Int)=0/\PS w7 g B s1 l1 q (30-(L:Int))/\gH (ia q L) (s1.length+1) l1 s1=gH (ia q L) (s.length+1) l s/\aHf l1+12*s1.length<=aHf l+12*s.length/\s1<:+s)\/(∃(k:Nat) (s':ag) (v':Value),k≠0/\(0:Int)=(k:Int)/\gH (ia q L) (s.length+1) l s=.bad k/\dz w7 g s' v' q (30-(L:Int))))/\MP g B w w7)/\(if(0:Int)=0 then 1+aJN g w7 else 0)<(if(0:Int)=0 then 1+aJN g w1 else 0))\/(∃ch,ed=.panicked ch/\ad3 w g B q (30-(L:Int)) L l s (.panicked ch) w7)):=by
  rintro _ rfl ho;refine(vR (x:=tx false [c]) (vw:=.slice none 0 0) (n:=1) cy mS hg (by omega) (aHg.nil _ _ _ _) (by simp) (by rw[yh];simp only[a_,cq]at Oe⊢;omega)).mono ?_;rintro _ w7 ⟨rfl,h7,m7⟩;have e:k9 (tx false [c]) q=tx q [c]:=by simp[k9,tx,Pt.k,Pt.q,Pt.t,Pt.n,Pt.o,Pt.w]
  rw[e]at h7;obtain⟨n,he,hi,hm⟩:=next (.returned (.int .i64 0)) w7 (by rw[ho];exact⟨⟨rfl,h7⟩,m7⟩);obtain rfl:n=0:=by injection he with he;injection he with _ he;exact he.symm
  exact .inl ⟨rfl,hi,hm⟩
 refine⟨λb w4=>(b=true->(((∃s1 l1,(0:Int)=0/\PS w4 g B s1 l1 q (30-(L:Int))/\gH (ia q L) (s1.length+1) l1 s1=gH (ia q L) (s.length+1) l s/\aHf l1+12*s1.length<=aHf l+12*s.length/\s1<:+s)\/(∃(k:Nat) (s':ag) (v':Value),k≠0/\(0:Int)=(k:Int)/\gH (ia q L) (s.length+1) l s=.bad k/\dz w4 g s' v' q (30-(L:Int))))/\MP g B w w4)/\(if(0:Int)=0 then 1+aJN g w4 else 0)<(if(0:Int)=0 then 1+aJN g w1 else 0))/\(b=false->w4=w1/\(q=true->ia q L (c::r)=.ok ([tx q [c]],1))),⟨q,by rw[bM];exact cy.quoted,ax (λI3=>?_) (λI4=>?_)⟩,?_⟩
 .subst I3
  refine(arl (L:=L) AF A_ hg (by omega) hlc Oe).mono ?_;rintro _ w3 ⟨b,rfl,gy,fO⟩;refine .inl ⟨b,rfl,λhb=>?_,λhb=>?_⟩
  .obtain⟨n,he,hi,hm⟩:=next _ w3 (show Ay w1 g B l1 true (30-(L:Int)) (c::r) (ia true L (c::r)) (.returned (.int .i64 0)) w3 from gy hb)
   obtain rfl:n=0:=by injection he with he;injection he with _ he;exact he.symm
   exact⟨hi,hm⟩
  .exact⟨(fO hb).1,λ_=>(fO hb).2⟩
 .exact⟨λe=>(by cases e),λ_=>⟨rfl,λe=>by rw[I4]at e;cases e⟩⟩
 rintro b _ w4 ⟨gy,fO⟩;refine ax (λhb=>gy hb) (λhb=>?_);obtain⟨rfl,hq1⟩:=fO hb;refine⟨q,by rw[bM];exact cy.quoted,ax (λI4=>?_) (λI3=>?_)⟩
 .have I4:q=false:=by simpa using I4
  subst I4;refine(index_spec _ c).mono ?_;rintro _ w5 ⟨⟨n,rfl,hn⟩,rfl⟩;have E0:([92,39,34]:ag).contains c=true↔(c=92\/c=39\/c=34):=by simp
  refine .inl ⟨_,rfl,ax (λh0=>?_) (λh0=>⟨_,cy.text,by decide,by simp only[a_];omega,byte w5 rfl ?_⟩)⟩
  .have h0:([92,39,34]:ag).contains c=true:=by rw[<-hn];exact h0
   refine(hq rfl w5 g B c r l1 AF hg (by omega) (E0.1 h0) hlc Oe ve).mono ?_;intro e w6 h6;obtain⟨n,he,hi,hm⟩:=next e w6 h6;exact .inl ⟨n,he,hi,hm⟩
  .have h0:¬([92,39,34]:ag).contains c=true:=by rw[<-hn,h0];decide
   rw[E0]at h0;simp only[ia,aIE,l9,jq];rw[aH A_,aH h0]
 .have I3:q=true:=by simpa using I3
  exact⟨_,cy.text,by decide,by simp only[a_];omega,byte w4 rfl (hq1 I3)⟩
def atf{l' l:List Pt}{k:Nat}(h:k<l'.length):(l'.take (k+1)).foldl f_ l=f_ ((l'.take k).foldl f_ l) l'[k]:=by rw[take_one h,List.foldl_append];rfl
set_option maxHeartbeats 1000000 in
def avu{L:Nat}(hL:L<=30):ae1 L:=by
 intro w g B c r l hs hg hB hc hl hw nb;have hs':=hs;obtain⟨v,hr,ho⟩:=hs;apply ak8;refine⟨_,hr.text,(ab8 _ hl).mono ?_⟩;rintro _ w1 ⟨rfl,s1⟩;have cy:dz w1 g _ v false _:=hr.still s1;have mS:=ho.still s1;have z1:=s1.size;simp only[a_]at hl hw;have aAE:¬c=36:=by rcases hc with rfl|rfl|rfl<;>decide
 have hout:aIE (aHz L) (c::r)=(match fH 30 (c::r)with
   |none=>.bad 90
   |some t=>
    if c=92 then .ok ([tx true (r.take 1)],2)
    else if c=34 then(qt (aHz L) (r.take (r.length-t.length-1))).and λl=>.ok (l,r.length+1-t.length)
    else .ok ([tx true (r.take (r.length-t.length-1))],r.length+1-t.length)):=by
  simp only[aIE];rw[aH aAE,aN hc];cases fH 30 (c::r)<;>rfl
 rw[hout];refine .inl ⟨_,rfl,?_⟩;cases hu:fH 30 (c::r)with
 |none=>
  have h0:aHR (c::r)=0:=by unfold aHR;rw[hu]
  rw[h0];exact ax (λ_=>⟨⟨rfl,_,_,cy⟩,s1.mp⟩) (λh=>absurd (aZ h) (by decide))
 |some t=>
  obtain⟨h1,h2,h3⟩:=Lj hu;simp only[a_]at h1 h3;have kG:c=92->∃b,r=b::t:=by
   rintro rfl;cases r with
   |nil=>cases hu
   |cons b y=>have:some y=some t:=hu;injection this with this;exact⟨b,by rw[this]⟩
  have h5:2<=aHR (c::r):=by
   rcases Decidable.em (c=92)with e|e
   .obtain⟨b,rfl⟩:=kG e
    simp only[a_]at h1;omega
   .have:=abH (hc.resolve_left e) hu
    omega
  generalize hn:aHR (c::r)=n at h1 h2 h3 h5;dsimp only;have emx:(if i64.wrap ((n:Int)-1)>1 then i64.wrap ((n:Int)-1)else 1)=((n-1:Nat):Int):=by rw[wrap_i64 (by omega) (by omega)];split<;>omega
  rw[emx];have hin:(((c::r:ag).drop (Int.toNat 1)).take (Int.toNat ((n-1:Nat):Int)-Int.toNat 1))=r.take (r.length-t.length-1):=by
   rw[bW];show r.take (n-1-1)=_
   congr 1;omega
  have e2:r.length+1-t.length=n:=by omega
  rw[e2];have put:∀(tt:ag) (w6:World),w6=w1->tt.length<=r.length->an pg #[.pointer (some ⟨g,0,none⟩),Ev (tx true tt) (.slice none 0 0),.int .i64 (n:Int)] w6 (λed w7=>(ed=.returned (.tuple #[])/\Ay w g B l false (30-(L:Int)) (c::r) (.ok ([tx true tt],n)) (.returned (.int .i64 0)) w7)\/(∃ch,ed=.panicked ch/\Ay w g B l false (30-(L:Int)) (c::r) (.ok ([tx true tt],n)) (.panicked ch) w7)):=by rintro tt _ rfl htt;refine(vR (x:=tx true tt) (n:=n) cy mS hg (by omega) (aHg.nil _ _ _ _) (by simp only[a_];omega) (by rw[yh];omega)).mono ?_;rintro _ w7 ⟨rfl,h7,m7⟩;exact .inl ⟨rfl,⟨rfl,h7⟩,s1.mp.trans m7⟩
  refine ax (λh=>absurd (aQ h) (by omega)) (λ_=>⟨c::r,cy.text,by decide,by omega,by simp only[a_];omega,?_⟩);rw[hin];refine⟨_,cy.text,by decide,c,rfl,ax (λh=>?_) (λh=>ax (λot=>?_) (λot=>?_))⟩
  .have h:c=92:=ey.1 (aQ h)
   obtain⟨b,rfl⟩:=kG h;rw[aN h];simp only[a_]at h1;have hn2:n=2:=by omega
   rw[hn2]at put⊢;exact⟨_,cy.text,by decide,by decide,by simp only[a_];omega,put [b] w1 rfl (by simp)⟩
  .have h:¬c=92:=λe=>aZ h (ey.2 e)
   have ot:c=34:=ey.1 (aQ ot);rw[aH h,aN ot];refine⟨_,by rw[bM];exact cy.depth,aO λw3 r3 s3 z3=>?_⟩;generalize Vl:r.take (r.length-t.length-1)=inner;have hil:inner.length<=r.length-1-t.length:=by rw[<-Vl,eZ];omega
   rw[Vl]at r3;have hy:PS w3 w1.heap.size (w1.heap.size+1) inner [] true (30-(L:Int)):=⟨_,r3,iR.nil _ _⟩;refine(ae2 hL (q:=true) (λe=>by cases e) hy (by omega) (by omega) (by omega) (by simp only[aHf];omega) (λe=>nb (Fx _ (Pw (Vl.symm▸e))))).mono ?_;rintro e4 w4 ⟨h4,m4⟩;have aKz:Still w1 w4:=Mod.trans s3 m4 (λ_ h=>h) λk hk e=>by omega
   have hr4:dz w4 g _ v false _:=cy.still aKz;have qA:=mS.still aKz;have azh:gH (ia true L) (inner.length+1) [] inner=gH (nT (aHz L)) (inner.length+1) [] inner:=rfl;rw[azh]at h4;cases hlp:gH (nT (aHz L)) (inner.length+1) [] inner with
   |bad k=>
    rw[hlp]at h4;obtain⟨rfl,_⟩:=h4;have hk:k≠0:=λe=>Lu (F_ _) (aKZ (B1 L)) _ _ _ (lB _) (by rw[hlp,e]);have hd:qt (aHz L) inner=.bad k:=by unfold qt;rw[aH,hlp];rintro rfl;cases hlp
    rw[hd];refine .inl ⟨_,rfl,ax (λ_=>⟨⟨rfl,_,_,hr4⟩,(s1.trans aKz).mp⟩) (λhh=>absurd (nf hh) (by omega))⟩
   |ok l0=>
    rw[hlp]at h4;obtain⟨rfl,hy4⟩:=h4;refine .inl ⟨_,rfl,ax (λhh=>absurd rfl (nt hh)) (λ_=>?_)⟩;obtain⟨l2,hd,aH5⟩:∃l2,qt (aHz L) inner=.ok l2/\aHf l2<=12*inner.length+8:=by
     cases hd:qt (aHz L) inner with
     |ok l2=>exact⟨l2,rfl,adR (L_ L) hd⟩
     |bad k=>
      exfalso;unfold qt at hd;split at hd
      .cases hd
      .rw[hlp]at hd;cases hd
    rw[hd]
    -- the parts within
    refine⟨λw6=>(∃v6,dz w6 w1.heap.size [] v6 true (30-(L:Int))/\iR w6 (w1.heap.size+1) l2 v6)/\Still w1 w6,ax (λh6=>?_) (λh6=>?_),?_⟩
    .have h6:inner=[]:=aQ h6
     subst h6;obtain rfl:l0=[]:=by injection hlp with hlp;exact hlp.symm
     obtain rfl:l2=[tx true []]:=by injection hd with hd;exact hd.symm
     obtain⟨v4,nH,rE⟩:=hy4;have z4:w1.heap.size<w4.heap.size:=nH.lt;refine(vR (x:=.mk 0 false [] [] [] []) (vw:=.slice none 0 0) (n:=0) nH rE (by omega) (by omega) (aHg.nil _ _ _ _) (by simp) (by simp[aHf,Pt.wt])).mono ?_;rintro _ w5 ⟨rfl,h5,m5⟩;refine .inl ⟨rfl,h5,Mod.trans aKz m5 (λ_ h=>h) λk hk e=>by omega⟩
    .have h6:¬inner=[]:=aZ h6
     have:l2=l0:=by unfold qt at hd;rw[aH h6,hlp]at hd;injection hd with hd;exact hd.symm
     subst this;exact⟨hy4,aKz⟩
    rintro _ w6 ⟨⟨v6,agL,Vm⟩,s6⟩;obtain⟨p6,c6,xs6,rfl,azi,aAF⟩:=Vm;have Vm:iR w6 (w1.heap.size+1) l2 (.slice p6 l2.length c6):=⟨p6,c6,xs6,rfl,azi,aAF⟩;have aAG:=Vm.sl;have z6:w1.heap.size<w6.heap.size:=agL.lt;have aFI:=LJ l2;refine⟨p6,l2.length,c6,agL.ai rfl,λx1 w7=>∃k:Nat,x1=(k:Int)/\k<=l2.length/\(∃v7,dz w7 g (c::r) v7 false (30-(L:Int))/\iR w7 B ((l2.take k).foldl f_ l) v7/\∀j,v7.ownBlock=some j->j<w1.heap.size\/w6.heap.size<=j)/\aHg w7 (λj=>w1.heap.size+1<=j/\j<w6.heap.size) l2 (.slice p6 l2.length c6)/\MP g B w1 w7/\w6.heap.size<=w7.heap.size,λx1 _=>l2.length-x1.toNat,⟨0,rfl,dU _,⟨v,cy.still s6,mS.still s6,λj hj=>.inl (mS.nu hj).2⟩,aAG,s6.mp,aR _⟩,?_⟩;rintro _ _ w7 ⟨k,rfl,hk,⟨v7,wP,yR,Vn⟩,agM,m7,z7⟩;refine ax (λhx=>?_) (λhx=>?_);rotate_left
    .have hx:k=l2.length:=by have:=aZ hx;omega
     rw[hx,aH0]at yR;refine⟨_,wP.text,by omega,by simp only[a_];omega,?_⟩;rw[bW];refine bF wP λbI mX m12 z12=>⟨⟨rfl,v7,mX,yR.mod m12 λj hj _ e=>by omega⟩,(s1.mp.trans m7).trans (m12.weaken λj hj=>.inl hj)⟩
    have hx:k<l2.length:=by have:=aQ hx;omega
    obtain⟨b,wp,wc,rfl,c0,c1,c2,c3,c4,c5,hsw⟩:=agM.fields hx;rw[bW];refine⟨by omega,by omega,_,_,_,_,_,_,_,_,c0,c1,c2,c3,c4,c5,wm rfl agK λw9 r9 s9 z9=>?_⟩;have sd:Still w7 w9.drew:=s9.cG;have rd:=r9.still (jd w9);have tU:dz w9.drew g (c::r) v7 false (30-(L:Int)):=wP.still sd;have mW:=yR.still sd;have zd:=sd.size;obtain⟨p9,c9,xs9,rfl,azj,aAH⟩:=mW;have mW:iR w9.drew B ((l2.take k).foldl f_ l) (.slice p9 ((l2.take k).foldl f_ l).length c9):=⟨p9,c9,xs9,rfl,azj,aAH⟩;have hwf:=LK (l2.take k) l;have hwt:=ad2 hx;refine⟨λwq=>wq=w9.drew,rfl,p9,((l2.take k).foldl f_ l).length,c9,λwq hq=>by subst hq;rw[bM];exact tU.ai rfl,_,_,_,_,_,_,_,_,λwq hq=>by subst hq;exact rd.ai rfl,λwq hq=>by subst hq;exact rd.ai rfl,λwq hq=>by subst hq;exact rd.ai rfl,λwq hq=>by subst hq;exact rd.ai rfl,λwq hq=>by subst hq;exact rd.ai rfl,λwq hq=>by subst hq;exact rd.ai rfl,?_⟩;refine(GD (x:=l2[k]) mW (by omega) ((hsw.still sd).mono λj hj=>⟨by omega,by omega,λe=>by rcases Vn j e with e|e<;>omega⟩) (by omega)).mono ?_;rintro _ aP ⟨v10,rfl,Vo,m10,yp⟩;obtain⟨wL,c10,aAI,rfl,ayo,azk⟩:=Vo;have Vo:iR aP B (f_ ((l2.take k).foldl f_ l) l2[k]) (.slice wL (f_ ((l2.take k).foldl f_ l) l2[k]).length c10):=⟨wL,c10,aAI,rfl,ayo,azk⟩;have aAJ:dz aP g (c::r) (.slice p9 ((l2.take k).foldl f_ l).length c9) false (30-(L:Int)):=tU.mod m10 λe=>by have:=(mW.nu e).1;omega
    refine .inl ⟨_,_,_,rfl,?_⟩;show cA ((Addr.mk g 0 none).add 1) _ _ _ _
    rw[bM];refine bF aAJ λbg gJ m11 wM=>?_;rw[show i64.wrap ((k:Int)+1)=((k+1:Nat):Int) by rw[wrap_i64 (by omega) (by omega)];omega];have aIt:=m10.size;refine⟨⟨k+1,rfl,hx,⟨_,gJ,?_,λj hj=>?_⟩,?_,?_,?_⟩,by dsimp only;omega⟩
    .rw[atf hx]
     exact Vo.mod m11 λj hj _ e=>by omega
    .rcases yp j hj with e|e
     .exact Vn j e
     ·right;omega
    .refine((agM.still sd).mod m10 λj hj e=>?_).mod m11 λj hj e=>?_
     .rcases Vn j e with e|e<;>omega
     .omega
    .exact((m7.still sd).trans (m10.weaken λj hj=>.inr (mW.nu hj).1)).trans (m11.weaken λj hj=>.inl hj)
    .omega
  .have h:¬c=92:=λe=>aZ h (ey.2 e)
   have ot:¬c=34:=λe=>aZ ot (ey.2 e);rw[aH h,aH ot];exact put _ w1 rfl (by rw[eZ];omega)
def avv{L:Nat}(hL:L<=30):ayn (L+1):=by
 intro w s hs nb;have e1:(31:Int)-((L+1:Nat):Int)=30-(L:Int):=by omega
 rw[e1];apply anh;refine ax (λh=>absurd (aQ h) (by omega)) (λ_=>aO λw1 r1 s1 z1=>?_);have hp:PS w1 w.heap.size (w.heap.size+1) s [] false (30-(L:Int)):=⟨_,r1,iR.nil _ _⟩;refine(ae2 (by omega) (q:=false) (λ_=>avu (by omega)) hp (by omega) (by omega) hs (by simp only[aHf];omega) nb).mono ?_;rintro e2 w2 ⟨h2,m2⟩;have s2:Still w w2:=Mod.trans s1 m2 (λ_ h=>h) λk hk e=>by omega
 have hlp:gH (ia false L) (s.length+1) [] s=aHz (L+1) s:=rfl;rw[hlp]at h2;unfold yq;cases hw:aHz (L+1) s with
 |bad k=>rw[hw]at h2;obtain⟨rfl,_⟩:=h2;have hk:k≠0:=λe=>B1 (L+1) s (by rw[hw,e]);exact .inl ⟨_,rfl,ax (λ_=>⟨rfl,s2⟩) (λhh=>absurd (nf hh) (by omega))⟩
 |ok l=>rw[hw]at h2;obtain⟨rfl,v,hr2,ie⟩:=h2;obtain⟨p,c,xs,rfl,hown,hcs⟩:=ie;have ie:iR w2 (w.heap.size+1) l (.slice p l.length c):=⟨p,c,xs,rfl,hown,hcs⟩;exact .inl ⟨_,rfl,ax (λhh=>absurd rfl (nt hh)) (λ_=>⟨_,_,_,hr2.ai rfl,⟨_,rfl,ie.sl.mono λk hk=>⟨by omega,hk.2⟩⟩,s2⟩)⟩
def aa7(s:ag)(hs:s.length<1000000)(nb:123∉s):an KE #[.string (S s)] w (yq w s 30):=by
 apply ang;refine(avv (L:=29) (by decide) w s hs nb).mono ?_;rintro e w1 h;unfold yq at h⊢;obtain⟨h,s1⟩:=h;cases hw:aHz 30 s with
 |bad k=>rw[hw]at h;exact .inl ⟨_,_,_,_,h,rfl,s1⟩
 |ok l=>rw[hw]at h;obtain⟨v,rfl,gh⟩:=h;obtain⟨p,c,rfl⟩:=gh.form;exact .inl ⟨_,_,_,_,rfl,⟨_,rfl,gh⟩,s1⟩
def cU.tr{g:Nat}{a b c:World}(h:cU g a b)(k:cU g b c):cU g a c:=Mod.trans h k (λ_ h=>h) (λ_ _ h=>h)
def SyW(w:World)(g:Nat)(r:Rs (List Pt×Ts))(e:Ending)(w':World):Prop:=cU g w w'/\match r with
 |.ok x=>∃v,e=.returned v/\aHg w' (λk=>w.heap.size<=k/\k<w'.heap.size) x.1 v/\Pz w' g x.2
 |.bad k=>e=.panicked (rj k)
def aa8{g:Nat}{s:Ts}(h:Pz w g s)(hb:TB s):an Dd #[.pointer (some ⟨g,0,none⟩)] w (SyW w g (nr s)):=by
 apply akn;refine(aI_ h 0).mono ?_;rintro _ w1 ⟨rfl,s1⟩;refine .inl ⟨_,_,rfl,yo (λhk=>?_) (λhk=>⟨s1.only,?_⟩)⟩
 .have hk:=aQ hk
  obtain⟨k,t,r,rfl⟩:∃k t r,s=(k,t)::r:=by
   cases s with
   |nil=>exact absurd hk (by decide)
   |cons x r=>exact⟨x.1,x.2,r,rfl⟩
  have hk:(k:Int)=0:=hk;obtain rfl:k=0:=by omega
  refine(DL (h.still s1)).mono ?_;rintro _ w2 ⟨rfl,o2,h2⟩;have tV:cU g w w2:=s1.only.tr o2;have hz:=s1.size;have gU:=o2.size;refine .inl ⟨_,_,rfl,(aa7 t hb.head.1 hb.afC).mono ?_⟩;rintro e3 w3 ⟨hp,s3⟩;have hpf:nr ((0,t)::r)=(aHz 30 t).and λl=>.ok (l,r):=rfl;cases hw:aHz 30 t with
  |bad j=>rw[hw]at hp;have hj:j≠0:=λe=>B1 30 t (by rw[hw,e]);refine .inl ⟨_,_,_,_,hp,(K7 j).mono ?_⟩;rintro _ w4 ⟨rfl,rfl⟩;rw[aH hj];refine .inr ⟨_,rfl,tV.tr s3.only,?_⟩;rw[hpf,hw];rfl
  |ok l=>rw[hw]at hp;obtain⟨v,rfl,gh⟩:=hp;obtain⟨p,c,rfl⟩:=gh.form;have hf:=K7 (w:=w3) 0;rw[aN rfl]at hf;refine .inl ⟨_,_,_,_,rfl,hf.mono ?_⟩;rintro _ w4 ⟨rfl,rfl⟩;refine .inl ⟨rfl,tV.tr s3.only,?_⟩;rw[hpf,hw];exact⟨_,rfl,gh.mono λk hk=>⟨by omega,hk.2⟩,h2.still s3⟩
 .have hk:=aZ hk
  have:nr s=.bad 100:=by
   cases s with
   |nil=>rfl
   |cons x r=>simp only[nr];rw[aH];intro e;exact hk (by simp[e])
  rw[this]
def SyR(w:World)(g:Nat)(r:Rs ((ag×List Pt)×Ts))(e:Ending)(w':World):Prop:=cU g w w'/\match r with
 |.ok x=>∃v,e=.returned (.agg #[.string (S x.1.1),v])/\aHg w' (λk=>w.heap.size<=k/\k<w'.heap.size) x.1.2 v/\Pz w' g x.2
 |.bad k=>e=.panicked (rj k)
def arn{g:Nat}{s:Ts}(h:Pz w g s)(hb:TB s)(hs:s≠[]):an Fy #[.pointer (some ⟨g,0,none⟩)] w (SyR w g (aIG s)):=by
 apply akj;obtain⟨x,r,rfl⟩:=aJl hs;have hg:=h.lt;refine aO λw1 r1 s1 z1=>(DL (h.still s1)).mono ?_;rintro _ w2 ⟨rfl,o2,h2⟩;have gU:=o2.size;refine .inl ⟨_,_,rfl,(aa8 h2 hb.tail).mono ?_⟩;rintro e3 w3 ⟨o3,hp⟩;have rA:=o3.size;have hrf:aIG (x::r)=(nr r).and λy=>.ok ((x.2,y.1),y.2):=rfl;have sQ:cU g w w3:=(s1.only.tr o2).tr o3;cases hw:nr r with
 |bad j=>rw[hw]at hp;refine .inr ⟨_,hp,sQ,?_⟩;rw[hrf,hw];rfl
 |ok y=>rw[hw]at hp;obtain⟨v,rfl,gh,h3⟩:=hp;obtain⟨p,c,rfl⟩:=gh.form;refine .inl ⟨_,_,_,rfl,?_⟩;have r3:=(r1.mod o2 (by omega)).mod o3 (by omega);refine bF r3 λw4 r4 m4 z4=>⟨_,_,_,_,r4.ai rfl,r4.ai rfl,Mod.trans sQ m4 (λ_ h=>h) (λi hi e=>by omega),?_⟩;rw[hrf,hw];exact⟨_,rfl,(gh.mod m4 λk hk e=>by omega).mono λk hk=>⟨by omega,by omega⟩,h3.mod m4 λk hk e=>by omega⟩
def aro(s:ag):an Dj #[.string (S s),.string (S [61])] w (λe w'=>e=.returned (.tuple #[.string (S (if s.head?=some 61 then s.drop 1 else s)),.bool (decide (s.head?=some 61))])/\w'=w):=by
 apply akY;have ep:pf [61] s=decide (s.head?=some 61):=by
  rw[KH];cases s with
  |nil=>rfl
  |cons c r=>rw[aIV];simp[List.isPrefixOf];exact eq_comm
 have h:an OQ #[.string (S s),.string (S [61])] w (λe w'=>e=.returned (.tuple #[.string (S (if s.head?=some 61 then s.drop 1 else s)),.bool (decide (s.head?=some 61))])/\w'=w):=by
  apply aji;refine(Tryz.stringslite_HasPrefix (S s) (S [61]) _).mono ?_;rintro _ w1 ⟨rfl,rfl⟩;have e2:Lib.hasPrefix (S s).data.toList (S [61]).data.toList=pf [61] s:=(KH _ _).symm;rw[e2,ep];refine .inl ⟨_,rfl,ax (λh=>?_) (λh=>?_)⟩
  .have h:¬s.head?=some 61:=by simpa using h
   rw[aH h,fY h];exact⟨rfl,rfl⟩
  .have h:s.head?=some 61:=by simpa using h
   rw[aN h,jc h];have hl:1<=s.length:=by
    cases s with
    |nil=>cases h
    |cons c r=>simp
   exact⟨by decide,by simp only[a_,cq];omega,rfl,rfl⟩
 refine h.mono ?_;rintro _ w1 ⟨rfl,rfl⟩;exact .inl ⟨_,_,rfl,rfl,rfl⟩
def u5(s:Ts):Option (Rs ((ag×List Pt)×Ts)):=match s with
 |(_,t)::r=>(uW t).map λy=>(aHz 30 y.2).and λl=>.ok ((y.1,l),r)
 |[]=>none
def SyA(w:World)(g:Nat)(s:Ts)(e:Ending)(w':World):Prop:=cU g w w'/\match u5 s with
 |none=>∃t p n c,e=.returned (.tuple #[.agg #[.string (S t),.slice p n c],.bool false])/\Pz w' g s
 |some (.ok x)=>∃p c,e=.returned (.tuple #[.agg #[.string (S x.1.1),.slice p x.1.2.length c],.bool true])/\aHg w' (λk=>w.heap.size<=k/\k<w'.heap.size) x.1.2 (.slice p x.1.2.length c)/\Pz w' g x.2
 |some (.bad k)=>e=.panicked (rj k)
def anG{g:Nat}{k:Nat}{t:ag}{r:Ts}(h:Pz w g ((k,t)::r))(hb:TB ((k,t)::r)):an O2 #[.pointer (some ⟨g,0,none⟩)] w (SyA w g ((k,t)::r)):=by
 apply aju;have hg:=h.lt;have hnl:=vP t;refine aO λw1 r1 s1 z1=>(aI_ (h.still s1) 0).mono ?_;rintro _ w2 ⟨rfl,s2⟩;refine .inl ⟨_,_,rfl,(Sp t hb.head.1).mono ?_⟩;rintro _ w3 ⟨rfl,s3⟩;have aHK:=(s1.trans s2).trans s3;have aFJ:=aHK.size;have aFK:=s2.size;have aFL:=s3.size;refine .inl ⟨_,rfl,bF ((r1.still s2).still s3) λw4 r4 m4 z4=>?_⟩;have htl:(t.take (bT t)).length=bT t:=by rw[eZ];omega
 have s4:Still w w4:=aHK.box (aR _) m4;have h4:Pz w4 g ((k,t)::r):=h.still s4;refine⟨_,r4.ai rfl,by omega,by simp only[Qu,O7];omega,?_⟩;rw[bW,htl];refine(aro (t.drop (bT t))).mono ?_;rintro _ w5 ⟨rfl,rfl⟩;have hhd:(t.drop (bT t)).head?=t[bT t]?:=by rw[List.head?_drop]
 -- none
 have none:uW t=none->∀(t1:ag) (w6:World),Row w6 w.heap.size 208 ⟨[.string (S t1),.slice none 0 0]⟩->Still w w6->SyA w g ((k,t)::r) (.returned (.tuple #[.agg #[.string (S t1),.slice none 0 0],.bool false])) w6:=by
  intro hno t1 w6 r6 s6;refine⟨s6.only,?_⟩;have:u5 ((k,t)::r)=.none:=by simp only[u5,hno,QC]
  rw[this];exact⟨_,_,_,_,rfl,h.still s6⟩
 refine .inl ⟨_,_,rfl,ax (λhx=>?_) (λhx=>?_)⟩
 .have hx:¬(t.drop (bT t)).head?=some 61:=nt hx
  refine⟨_,_,_,_,r4.ai rfl,r4.ai rfl,dL r4 (by simp[fF]) (by simp[Value.oneCell']) λw6 r6 m6 z6=>⟨_,_,_,_,r6.ai rfl,r6.ai rfl,?_⟩⟩;refine none ?_ _ w6 r6 (s4.box (aR _) m6);unfold uW;rw[aH];rintro⟨_,e⟩;exact hx (by rw[hhd];exact e)
 have hx:(t.drop (bT t)).head?=some 61:=nf hx;refine⟨_,r4.ai rfl,ax (λhn=>?_) (λhn=>?_)⟩
 .have hn:t.take (bT t)=[]:=aQ hn
  rw[hn,cq]at htl;refine⟨_,_,_,_,r4.ai rfl,r4.ai rfl,dL r4 (by simp[fF]) (by simp[Value.oneCell']) λw6 r6 m6 z6=>⟨_,_,_,_,r6.ai rfl,r6.ai rfl,?_⟩⟩;refine none ?_ _ w6 r6 (s4.box (aR _) m6);unfold uW;rw[aH];rintro⟨e,_⟩;omega
 have hn:t.take (bT t)≠[]:=aZ hn;have hn0:0<bT t:=by
  rcases aIi (bT t)with e|e
  .rw[e]at hn
   exact absurd rfl hn
  .exact e
 have aAK:uW t=some (t.take (bT t),t.drop (bT t+1)):=by unfold uW;rw[aN ⟨hn0,by rw[<-hhd];exact hx⟩]
 have hres:u5 ((k,t)::r)=some ((aHz 30 (t.drop (bT t+1))).and λl=>.ok ((t.take (bT t),l),r)):=by simp only[u5,aAK,FL]
 have e5:(if(t.drop (bT t)).head?=some 61 then(t.drop (bT t)).drop 1 else t.drop (bT t))=t.drop (bT t+1):=by rw[aN hx,Bo]
 rw[e5];have htb:=hb.head.1;refine(aa7 (t.drop (bT t+1)) (by rw[j_];omega) λe=>hb.afC (List.mem_of_mem_drop e)).mono ?_;rintro e6 w6 ⟨hp,s6⟩;have A4:=s6.size;have A6:=s4.size;have jx:=s4.trans s6;cases hw:aHz 30 (t.drop (bT t+1))with
 |bad j=>rw[hw]at hp;have hj:j≠0:=λe=>B1 30 _ (by rw[hw,e]);refine .inl ⟨_,_,_,_,hp,(K7 j).mono ?_⟩;rintro _ w7 ⟨rfl,rfl⟩;rw[aH hj];refine .inr ⟨_,rfl,jx.only,?_⟩;rw[hres,hw];rfl
 |ok l=>rw[hw]at hp;obtain⟨v,rfl,gh⟩:=hp;obtain⟨p,c,rfl⟩:=gh.form;have hf:=K7 (w:=w6) 0;rw[aN rfl]at hf;refine .inl ⟨_,_,_,_,rfl,hf.mono ?_⟩;rintro _ w7 ⟨rfl,rfl⟩;refine .inl ⟨rfl,dL (r4.still s6) (by simp[fF]) (by simp[Value.oneCell']) λw8 r8 m8 z8=>?_⟩;have s8:Still w w8:=jx.box (aR _) m8;refine(DL (h.still s8)).mono ?_;rintro _ w9 ⟨rfl,o9,h9⟩;have A3:=o9.size;have r9:=r8.mod o9 (by omega);refine .inl ⟨_,_,rfl,_,_,_,_,r9.ai rfl,r9.ai rfl,dL r9 (by simp[fF]) (by simp[Value.oneCell']) λaP aHJ m10 aIt=>⟨_,_,_,_,aHJ.ai rfl,aHJ.ai rfl,Mod.trans (s8.only.tr o9) m10 (λ_ h=>h) (λi hi e=>by omega),?_⟩⟩;rw[hres,hw];exact⟨p,c,rfl,(((gh.mod m8 λk hk e=>by omega).mod o9 λk hk e=>by omega).mod m10 λk hk e=>by omega).mono λk hk=>⟨by omega,by omega⟩,h9.mod m10 λk hk e=>by omega⟩
def wQ(w:World)(g:Nat)(r:Rs (Nd×Ts))(e:Ending)(w':World):Prop:=cU g w w'/\match r with
 |.ok x=>∃cs,e=.returned (.agg ⟨cs⟩)/\dR w' (λk=>w.heap.size<=k/\k<w'.heap.size) x.1 cs/\Pz w' g x.2
 |.bad k=>e=.panicked (rj k)
def aAL(f:FuncId)(args:Array Value)(gn:Nat)(w1:World)(K:World->Prop)(R:Ending->World->Prop):Prop:=
 ∃Sw:World->Prop,Sw w1.drew/\∃(v:Option Addr) (vL vC:Nat),(∀wq:World,Sw wq->wq.cell? (Addr.mk gn 7 none)=some (.slice v vL vC))/\an f args w1.drew (λed w5=>(∃cM:Int,∃k6:Bool,∃rName:List UInt8,∃(kV:Option Addr) (kS kT:Nat),∃(kP:Option Addr) (kN kO:Nat),∃(kU:Option Addr) (kQ kR:Nat),∃(k7:Option Addr) (kY kZ:Nat),∃(aHP:Option Addr) (kW kX:Nat),ed=.returned (.agg #[(.int .i64 cM),(.bool k6),(.string (S rName)),(.slice kV kS kT),(.slice kP kN kO),(.slice kU kQ kR),(.slice k7 kY kZ),(.slice aHP kW kX)])/\Sw w5/\cP (w5.alloc (.cells #[(.int .i64 cM),(.bool k6),(.string (S rName)),(.slice kV kS kT),(.slice kP kN kO),(.slice kU kQ kR),(.slice k7 kY kZ),(.slice aHP kW kX)] 66)) (λ(w6:World)=>Sw w6/\eW w6 66 8 152 v vL vC (some (Addr.mk w5.heap.size 0 none)) 1 (λ(p1:Option Addr) (cp:Nat) (w7:World)=>cA (Addr.mk gn 7 none) K 0 [(.slice p1 (vL+1) cp)] w7)))\/(∃ch,ed=.panicked ch/\R (.panicked ch) w5))
def Su{w0 w1:World}{g gn B:Nat}{X:Nat->Prop}{x:Nd}{vw va vr vo vk:Value}(nb:NB w0 w1 g gn B X x vw va vr vo vk){f:FuncId}{args:Array Value}{r:Rs (Nd×Ts)}(B5:an f args w1.drew (wQ w1.drew g r))(hn:x.ks.length<1000000){K:World->Prop}{R:Ending->World->Prop}
  (H7:∀k w',r=.bad k->cU g w0 w'->R (.panicked (rj k)) w')(hok:∀y WL w' X',r=.ok y->NB w0 w' g gn B X' (x.Nc y.1) vw va vr vo WL->Pz w' g y.2->Mod (λk=>k=g\/B<=k) w1 w'->K w'):aAL f args gn w1 K R:=by
 obtain⟨p,c,rfl⟩:=nb.ok.form;have aJk:=nb.still (jd w1);refine⟨λwq=>wq.cell? (Addr.mk gn 7 none)=some (.slice p x.ks.length c),aJk.row.ai rfl,p,x.ks.length,c,λ_ h=>h,?_⟩;refine(B5).mono ?_;rintro e5 w5 ⟨o5,hp⟩;have rI:=aJk.on o5;cases hr:r with
 |bad k=>rw[hr]at hp;exact .inr ⟨_,hp,H7 k w5 hr rI.only⟩
 |ok y=>rw[hr]at hp;obtain⟨cs,rfl,hnd,h5⟩:=hp;obtain⟨pw,cw,pa,ca,pr,cr,po,co,pk,ck,rfl,_⟩:=hnd.outs;refine .inl ⟨_,_,_,_,_,_,_,_,_,_,_,_,_,_,_,_,_,_,rfl,rI.row.ai rfl,NB.Nc (x:=x) (y:=y.1) aJk o5 hnd hn λp' c' w' X' Ba hm=>?_⟩;have hB:=nb.hB;have hg:=nb.hg;exact hok y _ w' X' hr Ba (h5.mod hm λk hk hb=>by omega) (Mod.trans (Mod.trans ((jd w1).weaken λ_ h=>h.elim) o5 (λ_ h=>h) (λ_ _ h=>.inl h)) hm (λ_ h=>h) (λ_ _ h=>.inr h))
def azl(g gn:Nat)(w1:World)(K:World->Prop)(R:Ending->World->Prop):Prop:=
 ∃Sw:World->Prop,Sw w1.drew/\∃(v:Option Addr) (vL vC:Nat),(∀wq:World,Sw wq->wq.cell? (Addr.mk gn 3 none)=some (.slice v vL vC))/\an Dd #[.pointer (some ⟨g,0,none⟩)] w1.drew (λed w5=>(∃(r:Option Addr) (rL rC:Nat),ed=.returned (.slice r rL rC)/\Sw w5/\cP (w5.alloc (.cells #[(.slice r rL rC)] 49)) (λ(w6:World)=>Sw w6/\eW w6 49 1 24 v vL vC (some (Addr.mk w5.heap.size 0 none)) 1 (λ(p1:Option Addr) (cp:Nat) (w7:World)=>cA (Addr.mk gn 3 none) K 0 [(.slice p1 (vL+1) cp)] w7)))\/(∃ch,ed=.panicked ch/\R (.panicked ch) w5))
def aa9{w0 w1:World}{g gn B:Nat}{X:Nat->Prop}{x:Nd}{vw va vr vo vk:Value}(nb:NB w0 w1 g gn B X x vw va vr vo vk){s:Ts}(hz:Pz w1 g s)(hb:TB s)(hn:x.ws.length<1000000){K:World->Prop}{R:Ending->World->Prop}
  (H7:∀k w',nr s=.bad k->cU g w0 w'->R (.panicked (rj k)) w')(hok:∀y vw' w' X',nr s=.ok y->NB w0 w' g gn B X' (x.Na y.1) vw' va vr vo vk->Pz w' g y.2->Mod (λk=>k=g\/B<=k) w1 w'->K w'):azl g gn w1 K R:=by
 obtain⟨p,c,rfl⟩:=nb.ow.form;have aJk:=nb.still (jd w1);refine⟨λwq=>wq.cell? (Addr.mk gn 3 none)=some (.slice p x.ws.length c),aJk.row.ai rfl,p,x.ws.length,c,λ_ h=>h,?_⟩;refine(aa8 (hz.still (jd w1)) hb).mono ?_;rintro e5 w5 ⟨o5,hp⟩;have rI:=aJk.on o5;cases hr:nr s with
 |bad k=>rw[hr]at hp;exact .inr ⟨_,hp,H7 k w5 hr rI.only⟩
 |ok y=>rw[hr]at hp;obtain⟨v,rfl,gh,h5⟩:=hp;obtain⟨q,d,rfl⟩:=gh.form;refine .inl ⟨_,_,_,rfl,rI.row.ai rfl,NB.Na (x:=x) (y:=y.1) aJk o5 ⟨_,rfl,gh⟩ hn λp' c' w' X' Ba hm=>?_⟩;have hB:=nb.hB;have hg:=nb.hg;exact hok y _ w' X' hr Ba (h5.mod hm λk hk hb=>by omega) (Mod.trans (Mod.trans ((jd w1).weaken λ_ h=>h.elim) o5 (λ_ h=>h) (λ_ _ h=>.inl h)) hm (λ_ h=>h) (λ_ _ h=>.inr h))
def aAM(g gn:Nat)(w1:World)(K:World->Prop)(R:Ending->World->Prop):Prop:=
 ∃Sw:World->Prop,Sw w1.drew/\∃(v:Option Addr) (vL vC:Nat),(∀wq:World,Sw wq->wq.cell? (Addr.mk gn 5 none)=some (.slice v vL vC))/\an Fy #[.pointer (some ⟨g,0,none⟩)] w1.drew (λed w5=>(∃EN:List UInt8,∃(D_:Option Addr) (DZ D0:Nat),ed=.returned (.agg #[(.string (S EN)),(.slice D_ DZ D0)])/\Sw w5/\cP (w5.alloc (.cells #[(.string (S EN)),(.slice D_ DZ D0)] 138)) (λ(w6:World)=>Sw w6/\eW w6 138 2 40 v vL vC (some (Addr.mk w5.heap.size 0 none)) 1 (λ(p1:Option Addr) (cp:Nat) (w7:World)=>cA (Addr.mk gn 5 none) K 0 [(.slice p1 (vL+1) cp)] w7)))\/(∃ch,ed=.panicked ch/\R (.panicked ch) w5))
def atg{w0 w1:World}{g gn B:Nat}{X:Nat->Prop}{x:Nd}{vw va vr vo vk:Value}(nb:NB w0 w1 g gn B X x vw va vr vo vk){s:Ts}(hz:Pz w1 g s)(hb:TB s)(hs:s≠[])(hn:x.rs.length<1000000){K:World->Prop}{R:Ending->World->Prop}
  (H7:∀k w',aIG s=.bad k->cU g w0 w'->R (.panicked (rj k)) w')(hok:∀y vr' w' X',aIG s=.ok y->NB w0 w' g gn B X' (x.yD y.1) vw va vr' vo vk->Pz w' g y.2->Mod (λk=>k=g\/B<=k) w1 w'->K w'):aAM g gn w1 K R:=by
 obtain⟨p,c,rfl⟩:=nb.ord.form;have aJk:=nb.still (jd w1);refine⟨λwq=>wq.cell? (Addr.mk gn 5 none)=some (.slice p x.rs.length c),aJk.row.ai rfl,p,x.rs.length,c,λ_ h=>h,?_⟩;refine(arn (hz.still (jd w1)) hb hs).mono ?_;rintro e5 w5 ⟨o5,hp⟩;have rI:=aJk.on o5;cases hr:aIG s with
 |bad k=>rw[hr]at hp;exact .inr ⟨_,hp,H7 k w5 hr rI.only⟩
 |ok y=>rw[hr]at hp;obtain⟨v,rfl,gh,h5⟩:=hp;obtain⟨q,d,rfl⟩:=gh.form;refine .inl ⟨_,_,_,_,rfl,rI.row.ai rfl,NB.yD (x:=x) (y:=y.1) aJk o5 ⟨_,rfl,gh⟩ hn λp' c' w' X' Ba hm=>?_⟩;have hB:=nb.hB;have hg:=nb.hg;exact hok y _ w' X' hr Ba (h5.mod hm λk hk hb=>by omega) (Mod.trans (Mod.trans ((jd w1).weaken λ_ h=>h.elim) o5 (λ_ h=>h) (λ_ _ h=>.inl h)) hm (λ_ h=>h) (λ_ _ h=>.inr h))
def ayp(a:Addr)(gr:Nat)(w:World)(R:Ending->World->Prop):Prop:=
 ∃bZ:Int,∃eH:Bool,∃b_:List UInt8,∃(aHq:Option Addr) (aHo eu:Nat),∃(aHm:Option Addr) (aHk aHl:Nat),∃(aHp:Option Addr) (eo aHn:Nat),∃(eL:Option Addr) (eD eE:Nat),∃(eF:Option Addr) (eA eB:Nat),w.cell? a=some (.int .i64 bZ)/\w.cell? (a.add 1)=some (.bool eH)/\w.cell? (a.add 2)=some (.string (S b_))/\w.cell? (a.add 3)=some (.slice aHq aHo eu)/\w.cell? (a.add 4)=some (.slice aHm aHk aHl)/\w.cell? (a.add 5)=some (.slice aHp eo aHn)/\w.cell? (a.add 6)=some (.slice eL eD eE)/\w.cell? (a.add 7)=some (.slice eF eA eB)/\cA (Addr.mk gr 0 none) (λ(w7:World)=>∃eC:Int,∃iP:Bool,∃eP:List UInt8,∃(iH:Option Addr) (iE iF:Nat),∃(iB:Option Addr) (iz iA:Nat),∃(iG:Option Addr) (iC iD:Nat),∃(iQ:Option Addr) (iK iL:Nat),∃(iM:Option Addr) (iI iJ:Nat),w7.cell? (Addr.mk gr 0 none)=some (.int .i64 eC)/\w7.cell? (Addr.mk gr 1 none)=some (.bool iP)/\w7.cell? (Addr.mk gr 2 none)=some (.string (S eP))/\w7.cell? (Addr.mk gr 3 none)=some (.slice iH iE iF)/\w7.cell? (Addr.mk gr 4 none)=some (.slice iB iz iA)/\w7.cell? (Addr.mk gr 5 none)=some (.slice iG iC iD)/\w7.cell? (Addr.mk gr 6 none)=some (.slice iQ iK iL)/\w7.cell? (Addr.mk gr 7 none)=some (.slice iM iI iJ)/\R (.returned (.agg #[(.int .i64 eC),(.bool iP),(.string (S eP)),(.slice iH iE iF),(.slice iB iz iA),(.slice iG iC iD),(.slice iQ iK iL),(.slice iM iI iJ)])) w7) 0 [(.int .i64 bZ),(.bool eH),(.string (S b_)),(.slice aHq aHo eu),(.slice aHm aHk aHl),(.slice aHp eo aHn),(.slice eL eD eE),(.slice eF eA eB)] w
def aad{w0:World}{g B:Nat}{a:Addr}{x:Nd}{cs:List Value}{R:Ending->World->Prop}(hc:qb w a cs)(hn:dR w (λk=>B<=k/\k<w.heap.size) x cs)(ho:cU g w0 w)(hres:Row w w0.heap.size 66 ⟨aHQ⟩)(hB:w0.heap.size<B)
  (hR:∀w' cs,Mod (λk=>k=w0.heap.size) w w'->cU g w0 w'->dR w' (λk=>w0.heap.size<=k/\k<w'.heap.size) x cs->R (.returned (.agg ⟨cs⟩)) w'):ayp a w0.heap.size w R:=by
 obtain⟨pw,cw,pa,ca,pr,cr,po,co,pk,ck,rfl,_⟩:=hn.outs;refine⟨_,_,_,_,_,_,_,_,_,_,_,_,_,_,_,_,_,_,hc.zero,hc 1 _ rfl,hc 2 _ rfl,hc 3 _ rfl,hc 4 _ rfl,hc 5 _ rfl,hc 6 _ rfl,hc 7 _ rfl,bF hres λw' r' m' z'=>?_⟩;refine⟨_,_,_,_,_,_,_,_,_,_,_,_,_,_,_,_,_,_,r'.ai rfl,r'.ai rfl,r'.ai rfl,r'.ai rfl,r'.ai rfl,r'.ai rfl,r'.ai rfl,r'.ai rfl,hR w' _ m' (Mod.trans ho m' (λ_ h=>h) (λi hi e=>by omega)) ?_⟩;exact(hn.mod m' λk hk e=>by omega).mono λk hk=>⟨by omega,by omega⟩
def wz(L:Nat):Prop:=∀(w:World) (g:Nat) (s:Ts),Pz w g s->TB s->an Jx #[.pointer (some ⟨g,0,none⟩),.int .i64 (31-(L:Int))] w (wQ w g ((dB L).1 s))
def ath{neg:Bool}{ks:List Nd}(h:¬(ks.length=1/\neg=false)):Mw neg ks=.mk 1 neg [] [] [] [] [] ks:=by
 match ks with
 |[]=>rfl
 |[k]=>
  cases neg with
  |true=>rfl
  |false=>exact absurd ⟨rfl,rfl⟩ h
 |a::b::r=>rfl
def aw1{L:Nat}(hc:wz L){g:Nat}{s:Ts}(h:Pz w g s)(hb:TB s):an PO #[.pointer (some ⟨g,0,none⟩),.int .i64 (31-(L:Int))] w (wQ w g (B8 (dB L).1 s)):=by
 apply akD;have hg:=h.lt;have he:=(aKi L).1;have CZ:=(GX L).1;refine aO λw1 r1 s1 z1=>(qX (h.still s1) 0 (t:=tu) (by decide)).mono ?_;rintro _ w2 ⟨rfl,o2,h2⟩;have gU:=o2.size;refine .inl ⟨_,rfl,aO λw3 r3 s3 z3=>bF r3 λw4 r4 m4 z4=>?_⟩;have r4:Row w4 w2.heap.size 66 ⟨jg (.mk 1 (cV 0 tu s) [] [] [] [] [] []) (.slice none 0 0) (.slice none 0 0) (.slice none 0 0) (.slice none 0 0) (.slice none 0 0)⟩:=r4;have EA:Row w4 w.heap.size 66 ⟨aHQ⟩:=((r1.mod o2 (by omega)).still s3).mod m4 (by omega);have o4:cU g w w4:=Mod.trans ((s1.only.tr o2).tr s3.only) m4 (λ_ h=>h) (λi hi e=>by omega);have h4:=(h2.still s3).mod m4 (by intro k hk e;omega);have hb4:TB (if cV 0 tu s=true then s.tail else s):=hb.qz (GW _ s);have WM:=NB.Oc (B:=w.heap.size+1) r4 o4 hg (by omega) (by omega) ⟨rfl,rfl,rfl,rfl,rfl⟩;have hpf:B8 (dB L).1 s=((dB L).1 (if cV 0 tu s=true then s.tail else s)).and λx=>lF (tv (dB L).1 (cV 0 tu s)) [x.1] x.2:=rfl;rw[hpf];clear hpf;generalize(if cV 0 tu s=true then s.tail else s)=s0 at*;generalize cV 0 tu s=neg at*;have hs0:=hb4.1;refine Su WM (hc _ _ _ (h4.still (jd _)) hb4) (show 0<1000000 by decide) (λk w' hr o=>⟨o,?_⟩) (λy vk5 w5 X5 hr rI h5 m5=>?_)
 .rw[hr]
  rfl
 rw[hr];have Cp:=EA.mod m5 (by intro e;omega);have hy1:=he _ _ hr;have hy2:=CZ _ _ hr;refine⟨λw9=>∃s9 ks vk X,NB w w9 g w2.heap.size (w.heap.size+1) X (.mk 1 neg [] [] [] [] [] ks) (.slice none 0 0) (.slice none 0 0) (.slice none 0 0) (.slice none 0 0) vk/\Row w9 w.heap.size 66 ⟨aHQ⟩/\Pz w9 g s9/\s9<:+s0/\ks.length+s9.length<=s0.length/\lF (tv (dB L).1 neg) ks s9=lF (tv (dB L).1 neg) [y.1] y.2,B_ g,⟨y.2,[y.1],vk5,X5,rI,Cp,h5,hy2,by simp only[a_,cq];omega,rfl⟩,?_⟩;rintro _ w9 ⟨s9,ks,vk,X,Of,agN,h9,pQ,hlen,heq⟩;simp only[Rs.and];rw[<-heq,rR (RJ he _)];clear heq;refine(qX h9 1 (t:=afu) (by decide)).mono ?_;rintro _ aP ⟨rfl,tW,h10⟩;refine .inl ⟨_,rfl,ax (λhx=>?_) (λhx=>?_)⟩
 .rw[hx,aN rfl]at h10
  have hps:tv (dB L).1 neg ks s9=((dB L).1 (fG s9.tail)).and λx=>.ok (.inl (ks++[x.1],x.2)):=by unfold tv;rw[aN hx]
  rw[hps];have htl:=GV hx;have IG:=aI9 s9.tail;have agO:fG s9.tail<:+s0:=(oC _).trans ((rX _).trans pQ);refine(aKc h10).mono ?_;rintro _ bg ⟨rfl,rJ,h11⟩;have EB:=(Of.on tW).on rJ;have Ei:=(agN.mod tW (by omega)).mod rJ (by omega);refine .inl ⟨rfl,Su EB (hc _ _ _ (h11.still (jd _)) (hb4.qz agO)) (show ks.length<1000000 by omega) (λk w' hr o=>⟨o,?_⟩) (λz agP bI X12 hr Vp h12 m12=>?_)⟩
  .rw[hr]
   rfl
  have hz1:=he _ _ hr;rw[hr];refine⟨⟨z.2,ks++[z.1],agP,X12,Vp,Ei.mod m12 (by intro e;omega),h12,(CZ _ _ hr).trans agO,by simp only[aHb,a_,cq];omega,?_⟩,by rw[h12.len,h9.len];omega⟩;rfl
 .rw[hx,aH (by decide)]at h10
  have hps:tv (dB L).1 neg ks s9=.ok (.inr (Mw neg ks,s9)):=by unfold tv;rw[aH (by rw[hx];decide)]
  rw[hps];have yN:=Of.on tW;have MC:=agN.mod tW (by omega);obtain⟨p,c,rfl⟩:=yN.ok.form;refine⟨λdI=>dI=aP/\¬(ks.length=1/\neg=false),⟨λb bX=>bX=aP/\(b=true↔ks.length=1/\neg=false),⟨p,ks.length,c,yN.row.ai rfl,ax (λe=>⟨neg,yN.row.ai rfl,rfl,?_⟩) (λe=>⟨rfl,λh=>(by cases h),λh=>absurd h.1 (by have:=aZ e;omega)⟩)⟩,?_⟩,?_⟩
  .have:=aQ e
   cases neg with
   |true=>exact⟨λh=>(by cases h),λh=>(by cases h.2)⟩
   |false=>exact⟨λ_=>⟨by omega,rfl⟩,λ_=>rfl⟩
  .rintro b _ bX ⟨rfl,hb⟩
   refine ax (λwK=>?_) (λA7=>⟨rfl,λh=>by rw[hb.2 h]at A7;cases A7⟩);obtain⟨e1,e2⟩:=hb.1 wK;obtain⟨k,rfl⟩:∃k,ks=[k]:=by
    match ks,e1 with
    |[k],_=>exact⟨k,rfl⟩
   obtain⟨q,cs,rfl,_,hnd,hcs⟩:=yN.ok.at.get (i:=0) rfl;refine⟨some q,_,c,yN.row.ai rfl,by decide,show(0:Int)<((1:Nat):Int) by decide,aad hcs hnd yN.only MC (lB _) λw' cs' m' o' hn'=>⟨o',?_⟩⟩;have:Mw neg [k]=k:=by rw[e2];rfl
   rw[this];exact⟨_,rfl,hn',h10.mod m' λj hj e=>by omega⟩
  .rintro _ dI ⟨rfl,hno⟩
   refine K8 yN MC (lB _) λw' cs' m' o' hn'=>⟨o',?_⟩;rw[ath hno];exact⟨_,rfl,hn',h10.mod m' λj hj e=>by omega⟩
def Sv{w0:World}{g gn B:Nat}{x:Nd}{cs:List Value}{R:Ending->World->Prop}(hr:Row w gn 66 ⟨cs⟩)(hn:dR w (λk=>B<=k/\k<w.heap.size) x cs)(ho:cU g w0 w)(hres:Row w w0.heap.size 66 ⟨aHQ⟩)(hB:w0.heap.size<B)
  (hR:∀w' cs,Mod (λk=>k=w0.heap.size) w w'->cU g w0 w'->dR w' (λk=>w0.heap.size<=k/\k<w'.heap.size) x cs->R (.returned (.agg ⟨cs⟩)) w'):Ux gn w0.heap.size w R:=by
 obtain⟨pw,cw,pa,ca,pr,cr,po,co,pk,ck,rfl,_⟩:=hn.outs;refine⟨_,_,_,_,_,_,_,_,_,_,_,_,_,_,_,_,_,_,hr.ai rfl,hr.ai rfl,hr.ai rfl,hr.ai rfl,hr.ai rfl,hr.ai rfl,hr.ai rfl,hr.ai rfl,bF hres λw' r' m' z'=>?_⟩;refine⟨_,_,_,_,_,_,_,_,_,_,_,_,_,_,_,_,_,_,r'.ai rfl,r'.ai rfl,r'.ai rfl,r'.ai rfl,r'.ai rfl,r'.ai rfl,r'.ai rfl,r'.ai rfl,hR w' _ m' (Mod.trans ho m' (λ_ h=>h) (λi hi e=>by omega)) ?_⟩;exact(hn.mod m' λk hk e=>by omega).mono λk hk=>⟨by omega,by omega⟩
def avw{L:Nat}(hc:wz L){g:Nat}{s:Ts}(h:Pz w g s)(hb:TB s):an Py #[.pointer (some ⟨g,0,none⟩),.int .i64 (31-(L:Int))] w (wQ w g (aJs (dB L).1 s)):=by
 apply aj9;have hg:=h.lt;have hsp:=abN (GX L).1;show zM _ _ _ _
 unfold aJs;refine aO λw1 r1 s1 z1=>(aw1 hc (h.still s1) hb).mono ?_;rintro e2 w2 ⟨o2,hp⟩;have gU:=o2.size;cases hr:B8 (dB L).1 s with
 |bad k=>rw[hr]at hp;exact .inr ⟨_,hp,s1.only.tr o2,rfl⟩
 |ok y=>
 rw[hr]at hp;obtain⟨cs,rfl,hnd,h2⟩:=hp;have hy2:=hsp _ _ hr;obtain⟨pw,cw,pa,ca,pr,cr,po,co,pk,ck,rfl,_⟩:=hnd.outs;refine .inl ⟨_,_,_,_,_,_,_,_,_,_,_,_,_,_,_,_,_,_,rfl,aO λw3 r3 s3 z3=>aO λw4 r4 s4 z4=>bF r4 λw5 r5 m5 z5=>?_⟩;have r5:Row w5 w3.heap.size 66 ⟨jg (.mk 2 false [] [] [] [] [] [y.1]) (.slice none 0 0) (.slice none 0 0) (.slice none 0 0) (.slice none 0 0) (.slice (some ⟨w2.heap.size,0,none⟩) 1 1)⟩:=r5;have Cp:Row w5 w.heap.size 66 ⟨aHQ⟩:=(((r1.mod o2 (by omega)).still s3).still s4).mod m5 (by omega);have r3':=(r3.still s4).mod m5 (by omega);have o5:cU g w w5:=Mod.trans (((s1.only.tr o2).tr s3.only).tr s4.only) m5 (λ_ h=>h) (λi hi e=>by omega);have h5:=((h2.still s3).still s4).mod m5 (by intro k hk e;omega);have aAN:dR w5 (λk=>w.heap.size+1<=k/\k<w5.heap.size/\k≠w3.heap.size/\k≠w2.heap.size) y.1 _:=(((hnd.still s3).still s4).mod m5 (λk hk e=>by omega)).mono λk hk=>⟨by omega,by omega,by omega,by omega⟩;have rI:=NB.mkK (B:=w.heap.size+1) r5 r3' aAN o5 hg (by omega) (by omega) (by omega) (by omega) ⟨rfl,rfl,rfl,rfl,rfl⟩;refine⟨λw9=>w9=w5,λ_=>0,rfl,?_⟩;rintro _ w6 rfl;refine aO λw7 r7 s7 z7=>(vV (h5.still s7) 1 (cZ.row (l:=[UW,V6]) r7) (by decide)).mono ?_;rintro _ w8 ⟨rfl,s8⟩;have hby:=hb.qz hy2;rw[S4 (by decide),Ab (by decide),hby.M1 (k:=1) (t:=UW) (by decide),hby.M1 (k:=1) (t:=V6) (by decide)];have wR:=s7.trans s8;have mZ:=rI.still wR;have h8:=h5.still wR;refine .inl ⟨_,rfl,ax (λhx=>by cases hx) (λ_=>?_)⟩;refine⟨none,0,0,mZ.row.ai rfl,ax (λ_=>?_) (λe=>absurd rfl (aZ e))⟩;obtain⟨q,cs,he,_,hnd,hcs⟩:=mZ.ok.at.get (i:=0) rfl;obtain rfl:=bO he;exact⟨_,_,_,mZ.row.ai rfl,by decide,show(0:Int)<((1:Nat):Int) by decide,aad hcs hnd mZ.only (Cp.still wR) (lB _) λw' cs' m' o' hn'=>⟨o',_,rfl,hn',h8.mod m' λj hj e=>by omega⟩⟩
def ad4{L:Nat}(hc:wz L){g:Nat}{s:Ts}(h:Pz w g s)(hb:TB s):an JN #[.pointer (some ⟨g,0,none⟩),.int .i64 (31-(L:Int))] w (wQ w g (uM (dB L).1 s)):=by
 apply akv;have hg:=h.lt;have he:=(aKi L).1;have hea:=abK he;have hsa:=acN (GX L).1;have hs0:=hb.1;refine aO λw1 r1 s1 z1=>aO λw2 r2 s2 z2=>bF r2 λw3 r3 m3 z3=>?_;have r3:Row w3 w1.heap.size 66 ⟨jg (.mk 3 false [] [] [] [] [] []) (.slice none 0 0) (.slice none 0 0) (.slice none 0 0) (.slice none 0 0) (.slice none 0 0)⟩:=r3;have Cq:Row w3 w.heap.size 66 ⟨aHQ⟩:=(r1.still s2).mod m3 (by omega);have s3:Still w w3:=(s1.trans s2).box (by omega) m3;have Og:=NB.Oc (B:=w.heap.size+1) r3 s3.only hg (by omega) (by omega) ⟨rfl,rfl,rfl,rfl,rfl⟩;refine(aKc (h.still s3)).mono ?_;rintro _ w4 ⟨rfl,o4,h4⟩;have IG:=aI9 s;refine .inl ⟨rfl,λw9=>∃s9 ks vk X,NB w w9 g w1.heap.size (w.heap.size+1) X (nv ks) (.slice none 0 0) (.slice none 0 0) (.slice none 0 0) (.slice none 0 0) vk/\Row w9 w.heap.size 66 ⟨aHQ⟩/\Pz w9 g s9/\s9<:+s/\ks.length+s9.length<=s.length/\lF (oO (dB L).1) ks s9=uM (dB L).1 s,B_ g,⟨fG s,[],_,_,Og.on o4,Cq.mod o4 (by omega),h4,oC s,by simp only[cq];omega,rfl⟩,?_⟩;rintro _ w5 ⟨s9,ks,vk,X,rI,Cp,h5,pQ,hlen,heq⟩;rw[<-heq,rR (DD he)];clear heq;refine(Sr h5).mono ?_;rintro _ w6 ⟨rfl,s6⟩;have Ba:=rI.still s6;have Nf:=Cp.still s6;have h6:=h5.still s6;refine .inl ⟨_,rfl,ax (λhx=>?_) (λhx=>?_)⟩
 .have hx:Aq s9=false:=by simpa using hx
  have hls:oO (dB L).1 ks s9=(aJs (dB L).1 s9).and λx=>if cV 1 nX x.2=true then .ok (.inl (ks++[x.1],fG x.2.tail))else if cV 2 [10] x.2=true then .ok (.inl (ks++[x.1],fG x.2))else .ok (.inr (nv (ks++[x.1]),x.2)):=by unfold oO;rw[aH (by rw[hx];decide)]
  rw[hls];refine Su Ba (avw hc (h6.still (jd _)) (hb.qz pQ)) (show ks.length<1000000 by omega) (λk w' hr o=>⟨o,?_⟩) (λy agQ aP X10 hr yN h10 m10=>?_)
  .rw[hr]
   rfl
  have hz1:=hea _ _ hr;have hsy:=(hsa _ _ hr).trans pQ;rw[hr];simp only[Rs.and];have MC:=Nf.mod m10 (by intro e;omega);have hl1:=aI9 y.2;have aH5:=aI9 y.2.tail;have ht:=BN y.2;refine(qX h10 1 (t:=nX) (by decide)).mono ?_;rintro _ bg ⟨rfl,rJ,h11⟩;have EB:=yN.on rJ;have Ei:=MC.mod rJ (by omega);refine .inl ⟨_,rfl,ax (λh1=>?_) (λh1=>?_)⟩
  .have h1:cV 1 nX y.2=false:=by simpa using h1
   rw[h1,aH (by decide)]at h11;refine aO λbI mX fX z12=>(vV (h11.still fX) 2 (cZ.row (l:=[[10]]) mX) (by decide)).mono ?_;rintro _ aHa ⟨rfl,aHK⟩;rw[Ab (by decide)];have Vq:=fX.trans aHK;have Cr:=EB.still Vq;have HF:=Ei.still Vq;have qF:=h11.still Vq;refine .inl ⟨_,rfl,ax (λh2=>?_) (λh2=>?_)⟩
   .have h2:cV 2 [10] y.2=false:=by simpa using h2
    refine K8 Cr HF (lB _) λw' cs' m' o' hn'=>⟨o',?_⟩;rw[aH (by rw[h1];decide),aH (by rw[h2];decide)];exact⟨_,rfl,hn',qF.mod m' λj hj e=>by omega⟩
   .have h2:cV 2 [10] y.2=true:=by simpa using h2
    refine(aKc qF).mono ?_;rintro _ ct ⟨rfl,N2,AX⟩;refine .inl ⟨rfl,⟨fG y.2,ks++[y.1],agQ,X10,Cr.on N2,HF.mod N2 (by omega),AX,(oC _).trans hsy,by simp only[aHb,a_,cq];omega,?_⟩,by rw[AX.len,h5.len];omega⟩;rw[aH (by rw[h1];decide),aN h2]
  .have h1:cV 1 nX y.2=true:=by simpa using h1
   rw[h1,aN rfl]at h11;refine(aKc h11).mono ?_;rintro _ bX ⟨rfl,o16,aHT⟩;refine .inl ⟨rfl,⟨fG y.2.tail,ks++[y.1],agQ,X10,EB.on o16,Ei.mod o16 (by omega),aHT,(oC _).trans ((rX _).trans hsy),by simp only[aHb,a_,cq];omega,?_⟩,by rw[aHT.len,h5.len];omega⟩;rw[aN h1]
 .have hx:Aq s9=true:=by simpa using hx
  have hls:oO (dB L).1 ks s9=.ok (.inr (nv ks,s9)):=by unfold oO;rw[aN hx]
  rw[hls];exact K8 Ba Nf (lB _) λw' cs' m' o' hn'=>⟨o',_,rfl,hn',h6.mod m' λj hj e=>by omega⟩
def Lv(s:Ts):decide (((((s[0]?).getD (2,[])).1:Nat):Int)=0)=IC s:=by
 cases s with
 |nil=>rfl
 |cons x r=>
  obtain⟨k,t⟩:=x;show decide ((k:Int)=0)=decide (k=0)
  exact aIU.2 (by omega)
def apW{a:List (List Pt)×List (ag×List Pt)×List (ag×List Pt)}{s:Ts}(h:th s=true):mH a s=(aIG s).and λx=>.ok (.inl ((a.1,a.2.1,a.2.2++[x.1]),x.2)):=by unfold mH;rw[aN h]
def apX{a:List (List Pt)×List (ag×List Pt)×List (ag×List Pt)}{s:Ts}(h:th s=false)(hk:IC s=false):mH a s=if a.1.length+a.2.1.length+a.2.2.length=0 then .bad 100 else .ok (.inr (.mk 0 false [] a.1 a.2.1 a.2.2 [] [],s)):=by
 unfold mH;rw[aH (by rw[h];decide)]
 match s,hk with
 |[],_=>rfl
 |(k,t)::r,hk=>simp only[aH (aZ hk)]
def RN{a:List (List Pt)×List (ag×List Pt)×List (ag×List Pt)}{t:ag}{r:Ts}{R:Rs ((ag×List Pt)×Ts)}(h:th ((0,t)::r)=false)(ha:a.1=[])(hR:u5 ((0,t)::r)=some R):mH a ((0,t)::r)=R.and λx=>.ok (.inl ((a.1,a.2.1++[x.1],a.2.2),x.2)):=by
 unfold mH;rw[aH (by rw[h];decide)];simp only[aN ha,u5]at hR⊢;cases hy:uW t with
 |none=>rw[hy]at hR;cases hR
 |some y=>rw[hy]at hR;obtain rfl:=bO hR;simp only[↓reduceIte];cases aHz 30 y.2<;>rfl
def ao4{a:List (List Pt)×List (ag×List Pt)×List (ag×List Pt)}{t:ag}{r:Ts}(h:th ((0,t)::r)=false)(ha:a.1≠[]\/u5 ((0,t)::r)=none):mH a ((0,t)::r)=(nr ((0,t)::r)).and λx=>.ok (.inl ((a.1++[x.1],a.2.1,a.2.2),x.2)):=by
 unfold mH;rw[aH (by rw[h];decide)];have hn:(if a.1=[]then uW t else none)=none:=by
  rcases ha with ha|ha
  .rw[aH ha]
  .split
   .cases hy:uW t with
    |none=>rfl
    |some y=>simp only[u5,hy]at ha;cases ha
   ·rfl
 simp only[hn,nr,↓reduceIte];cases aHz 30 t<;>rfl
def apY{g:Nat}{s:Ts}(h:Pz w g s)(hb:TB s):an Pu #[.pointer (some ⟨g,0,none⟩)] w (wQ w g (pE s)):=by
 apply ajW;have hg:=h.lt;have hs0:=hb.1;refine aO λw1 r1 s1 z1=>?_;have r1:Row w1 w.heap.size 66 ⟨jg (.mk 0 false [] [] [] [] [] []) (.slice none 0 0) (.slice none 0 0) (.slice none 0 0) (.slice none 0 0) (.slice none 0 0)⟩:=r1;have ve:=NB.Oc (B:=w.heap.size) r1 s1.only hg (aR _) (aR _) ⟨rfl,rfl,rfl,rfl,rfl⟩;refine⟨λw2=>∃s9 ws m_ rs vw va vr X,NB w w2 g w.heap.size w.heap.size X (.mk 0 false [] ws m_ rs [] []) vw va vr (.slice none 0 0) (.slice none 0 0)/\Pz w2 g s9/\s9<:+s/\ws.length+m_.length+rs.length+s9.length<=s.length/\lF mH (ws,m_,rs) s9=pE s,B_ g,⟨s,[],[],[],_,_,_,_,ve,h.still s1,sZ _,by simp only[cq];omega,rfl⟩,?_⟩;rintro _ w2 ⟨s9,ws,m_,rs,vw,va,vr,X,aKs,h2,pQ,hlen,heq⟩;have hm:=rR aJ9 (ws,m_,rs) s9;rw[heq]at hm;clear heq;have aKA:=hb.qz pQ;refine(Zd h2).mono ?_;rintro _ w3 ⟨rfl,s3⟩;have Og:=aKs.still s3;have h3:=h2.still s3;refine .inl ⟨_,rfl,ax (λhx=>?_) (λhx=>?_)⟩
 .have hst:=apW (a:=(ws,m_,rs)) hx
  rw[hst]at hm;refine atg Og h3 aKA (by rintro rfl;cases hx) (show rs.length<1000000 by omega) (λk w' hr o=>⟨o,?_⟩) (λz vr4 w4 X4 hr WM h4 m4=>?_)
  .rw[hr]at hm
   have hm:pE s=.bad k:=hm;rw[hm]
  rw[hr]at hm;have hz1:=Z1 _ _ hr;have gU:=aaJ _ _ hr;exact⟨⟨z.2,ws,m_,rs++[z.1],vw,va,vr4,X4,WM,h4,gU.trans pQ,by simp only[aHb,a_,cq];omega,hm.symm⟩,by rw[h4.len,h2.len];omega⟩
 refine(aI_ h3 0).mono ?_;rintro _ w8 ⟨rfl,s8⟩;have mZ:=Og.still s8;have h8:=h3.still s8;refine .inl ⟨_,_,rfl,?_⟩
 try dsimp only[zR]
 rw[Lv];obtain⟨pw,cw,rfl⟩:=mZ.ow.form;obtain⟨pa,ca,rfl⟩:=mZ.oa.form;obtain⟨pr,cr,rfl⟩:=mZ.ord.form;refine ax (λhk=>?_) (λhk=>?_)
 .have hk:IC s9=false:=by simpa using hk
  rw[apX hx hk]at hm;simp only at hm;refine⟨pw,ws.length,cw,mZ.row.ai rfl,pa,m_.length,ca,mZ.row.ai rfl,pr,rs.length,cr,mZ.row.ai rfl,yo (λht=>?_) (λht=>⟨mZ.only,?_⟩)⟩
  .have ht:=aQ ht
   rw[wrap_i64 (n:=(ws.length:Int)+(m_.length:Int)) (by omega) (by omega),wrap_i64 (by omega) (by omega)]at ht;rw[aH (by omega)]at hm;have hm:pE s=.ok (.mk 0 false [] ws m_ rs [] [],s9):=hm;refine arh mZ λw' cs' m' o' hn'=>⟨o',?_⟩;rw[hm];exact⟨_,rfl,hn',h8.mod m' λj hj e=>by omega⟩
  .have ht:=aZ ht
   rw[wrap_i64 (n:=(ws.length:Int)+(m_.length:Int)) (by omega) (by omega),wrap_i64 (by omega) (by omega)]at ht;rw[aN (by omega)]at hm;have hm:pE s=.bad 100:=hm;rw[hm]
 have hk:IC s9=true:=by simpa using hk
 obtain⟨t,r,rfl⟩:∃t r,s9=(0,t)::r:=by
  match s9,hk with
  |(k,t)::r,hk=>exact⟨t,r,by rw[show k=0 from aQ hk]⟩
 simp only[a_]at hlen;refine⟨λcF=>NB w cF g w.heap.size w.heap.size X (.mk 0 false [] ws m_ rs [] []) (.slice pw ws.length cw) (.slice pa m_.length ca) (.slice pr rs.length cr) (.slice none 0 0) (.slice none 0 0)/\Pz cF g ((0,t)::r)/\(ws≠[]\/u5 ((0,t)::r)=none),⟨pw,ws.length,cw,mZ.row.ai rfl,ax (λhe=>?_) (λhe=>?_)⟩,?_⟩
 .have rG:ws=[]:=mC (by have:=aQ he;omega)
  refine(anG h8 aKA).mono ?_;rintro e11 bg ⟨rJ,hp⟩;have aFM:=rJ.size;have hl8:=mZ.row.lt;cases hR:u5 ((0,t)::r)with
  |none=>rw[hR]at hp;obtain⟨t',p',n',c',rfl,h11⟩:=hp;refine .inl ⟨_,_,_,_,_,rfl,aO λbI mX fX z12=>bF mX λaHa qH m13 aJi=>?_⟩;have sQ:cU g w8 aHa:=Mod.trans (rJ.tr fX.only) m13 (λ_ h=>h) (λi hi e=>by omega);exact⟨mZ.on sQ,(h11.still fX).mod m13 (by intro k hk e;omega),.inr rfl⟩
  |some R=>
   rw[hR]at hp;rw[RN hx rG hR]at hm;cases R with
   |bad k=>have hm:pE s=.bad k:=hm;exact .inr ⟨_,hp,(mZ.on rJ).only,by rw[hm]⟩
   |ok z=>obtain⟨p',c',rfl,gh,h11⟩:=hp;have hz1:=aJ9 _ _ _ (RN (a:=(ws,m_,rs)) hx rG hR);have gU:=Z2 _ _ _ (RN (a:=(ws,m_,rs)) hx rG hR);have hz1:z.2.length<((0,t)::r).length:=hz1;have gU:z.2<:+(0,t)::r:=gU;simp only[a_]at hz1;refine .inl ⟨_,_,_,_,_,rfl,aO λbI mX fX z12=>bF mX λaHa qH m13 aJi=>?_⟩;have sQ:cU g w8 aHa:=Mod.trans (rJ.tr fX.only) m13 (λ_ h=>h) (λi hi e=>by omega);have qF:=(h11.still fX).mod m13 (by intro k hk e;omega);have Cr:=mZ.on sQ;have azm:aHg aHa (λk=>w8.heap.size<=k/\k<aHa.heap.size) z.1.2 (.slice p' z.1.2.length c'):=gh.dO (λk hk=>⟨by omega,by omega⟩) λa v ⟨k,hk,ea⟩ hcell=>vQ m13 (by rw[ea];show¬k=bg.heap.size;omega) (fX.cell hcell);refine⟨pa,m_.length,ca,Cr.row.ai rfl,z.1.1,p',z.1.2.length,c',qH.ai rfl,qH.ai rfl,NB.azf (y:=z.1) mZ sQ ⟨_,rfl,azm⟩ (show m_.length<1000000 by omega) λp2 c2 bX X16 aLc m16=>?_⟩;have aHT:=qF.mod m16 (by intro k hk e;omega);exact⟨⟨z.2,ws,m_++[z.1],rs,_,_,_,X16,aLc,aHT,gU.trans pQ,by simp only[aHb,a_,cq];omega,hm.symm⟩,by rw[aHT.len,h2.len];simp only[a_];omega⟩
 .exact⟨mZ,h8,.inl (by rintro rfl;exact aZ he rfl)⟩
 .rintro _ cF ⟨Ng,wN,WN⟩
  rw[ao4 (a:=(ws,m_,rs)) hx WN]at hm;refine aa9 Ng wN aKA (show ws.length<1000000 by omega) (λk w' hr o=>⟨o,?_⟩) (λz vw9 w9 X9 hr Of h9 m9=>?_)
  .rw[hr]at hm
   have hm:pE s=.bad k:=hm;rw[hm]
  rw[hr]at hm;have hz1:=KU _ _ hr;have gU:=K3 _ _ hr;simp only[a_]at hz1;exact⟨⟨z.2,ws++[z.1],m_,rs,vw9,_,_,X9,Of,h9,gU.trans pQ,by simp only[aHb,a_,cq];omega,hm.symm⟩,by rw[h9.len,h2.len];simp only[a_];omega⟩
def Rs.ae3{α β:Type}(x:α)(f:α->Rs β):(Rs.ok x).and f=f x:=rfl
def NB.more{w0 w':World}{g gn B:Nat}{X Y:Nat->Prop}{x:Nd}{vw va vr vo vk:Value}(h:NB w0 w g gn B X x vw va vr vo vk)(hm:Still w w')(E1:∀k,X k->Y k)(hYX:∀k,Y k->X k\/(w.heap.size<=k/\k<w'.heap.size)):NB w0 w' g gn B Y x vw va vr vo vk:=by
 have hz:=hm.size;have hl:=h.row.lt;have gY:=h.gY;have hv:∀k,Y k->X k\/w.heap.size<=k:=λk hk=>(hYX k hk).imp_right aKE;refine⟨h.row.still hm,h.only.tr hm.only,h.hg,h.hB,h.gY,λk hk=>?_,E1 _ h.xg,?_,?_,?_,?_,?_⟩
 .rcases hYX k hk with hk|hk
  .exact⟨oB (h.xs k hk).1 hz,(h.xs k hk).2⟩
  .exact⟨hk.2,by omega⟩
 .exact h.ow.mod hm (λ_ _ _ h=>h.elim) E1 hv
 .exact h.oa.mod hm (λ_ _ _ h=>h.elim) E1 hv
 .exact h.ord.mod hm (λ_ _ _ h=>h.elim) E1 hv
 .exact h.oo.mod hm (λ_ _ _ h=>h.elim) E1 hv
 .exact h.ok.mod hm (λ_ _ _ h=>h.elim) E1 hv
abbrev Nd.su(x:Nd)(y:Nd):Nd:=.mk x.k x.neg x.nm x.ws x.aHv x.rs x.os [y]
abbrev Nd.Ey(x:Nd)(y:ag):Nd:=.mk x.k x.neg x.nm x.ws x.aHv x.rs [y] x.ks
def ati{w0 w1:World}{g gn B:Nat}{X:Nat->Prop}{x y:Nd}{vw va vr vo vk:Value}{cs:List Value}(nb:NB w0 w1 g gn B X x vw va vr vo vk)(o:cU g w1 w)(hn:dR w (λk=>w1.heap.size<=k/\k<w.heap.size) y cs){K:World->Prop}
  (hK:∀WL w' X',NB w0 w' g gn B X' (x.su y) vw va vr vo WL->Mod (λk=>B<=k) w w'->K w'):
  cP (w.alloc (.cells ⟨cs⟩ 66)) (λw2=>cA (Addr.mk gn 7 none) K 0 [.slice (some (Addr.mk w.heap.size 0 none)) 1 1] w2):=by
 have ve:=nb.on o;have hl:=nb.row.lt;have hl1:=ve.row.lt;have hB:=nb.hB;have gY:=nb.gY;have hzo:=o.size;refine aO λw2 r2 s2 z2=>?_;have aKs:=ve.more (Y:=λk=>X k\/k=w.heap.size) s2 (λk hk=>.inl hk) (λk hk=>hk.imp_right λe=>by omega);refine bF aKs.row λw3 r3 m3 z3=>hK _ w3 _ (aKs.put m3 (y:=x.su y) r3 (.inr ⟨rfl,rfl⟩) ⟨rfl,rfl⟩ ⟨rfl,rfl⟩ (.inr ⟨rfl,rfl⟩) (.inl ?_)) (Mod.trans s2 m3 (λ_ h=>h.elim) (λk _ e=>by omega));have WG:=(hn.still s2).mod m3 (λk hk e=>by omega);refine aHd.aHj.row (l:=[y]) (r2.mod m3 (by omega)) (by omega) (by omega) (.inr rfl) (show 1<=1000000 by decide) (aHd.Cs.single (WG.mono λk hk=>⟨by omega,by omega,λhx=>?_⟩));rcases hx with hx|hx
 .have:=(nb.xs k hx).1
  omega
 .omega
def atj{w0:World}{g gn B:Nat}{X:Nat->Prop}{x:Nd}{y:ag}{vw va vr vo vk:Value}(nb:NB w0 w g gn B X x vw va vr vo vk){K:World->Prop}
  (hK:∀vo' w' X',NB w0 w' g gn B X' (x.Ey y) vw va vr vo' vk->Mod (λk=>B<=k) w w'->K w'):
  cP (w.alloc (.cells ⟨[.string (S y)]⟩ 9)) (λw2=>cA (Addr.mk gn 6 none) K 0 [.slice (some (Addr.mk w.heap.size 0 none)) 1 1] w2):=by
 have hl:=nb.row.lt;have hB:=nb.hB;have gY:=nb.gY;refine aO λw2 r2 s2 z2=>?_;have aKs:=nb.more (Y:=λk=>X k\/k=w.heap.size) s2 (λk hk=>.inl hk) (λk hk=>hk.imp_right λe=>by omega);refine bF aKs.row λw3 r3 m3 z3=>hK _ w3 _ (aKs.put m3 (y:=x.Ey y) r3 (.inr ⟨rfl,rfl⟩) ⟨rfl,rfl⟩ ⟨rfl,rfl⟩ (.inl ?_) (.inr ⟨rfl,rfl⟩)) (Mod.trans s2 m3 (λ_ h=>h.elim) (λk _ e=>by omega));exact aHd.aHj.row (l:=[y]) (r2.mod m3 (by omega)) (by omega) (by omega) (.inr rfl) (show 1<=1000000 by decide) (aHd.Cs.single rfl)
def ayq{L:Nat}(hL:L<100):i64.wrap (31-((L+1:Nat):Int)+1)=31-(L:Int):=by rw[wrap_i64 (by omega) (by omega)];omega
def aw2{L:Nat}(hc:wz L){g:Nat}{s:Ts}(h:Pz w g s)(hb:TB s):an PV #[.pointer (some ⟨g,0,none⟩),.int .i64 (31-(L:Int))] w (wQ w g (B9 (dB L).1 s)):=by
 apply akK;have hg:=h.lt;have CZ:B9 (dB L).1 s=(uM (dB L).1 s).and λx=>if x.1.ks=[]then .bad 100 else .ok x:=rfl;rw[CZ];refine aO λw1 r1 s1 z1=>(ad4 hc (h.still s1) hb).mono ?_;rintro e2 w2 ⟨o2,hp⟩;have gU:=o2.size;have tV:=s1.only.tr o2;cases hr:uM (dB L).1 s with
 |bad k=>rw[hr]at hp;exact .inr ⟨_,hp,tV,rfl⟩
 |ok y=>
 rw[hr]at hp;obtain⟨cs,rfl,hnd,h2⟩:=hp;simp only[Rs.and];obtain⟨pw,cw,pa,ca,pr,cr,po,co,pk,ck,rfl,_⟩:=hnd.outs;refine .inl ⟨_,_,_,_,_,_,_,_,_,_,_,_,_,_,_,_,_,_,rfl,aO λw3 r3 s3 z3=>bF r3 λw4 r4 m4 z4=>?_⟩;have r4:Row w4 w2.heap.size 66 ⟨jg y.1 (.slice pw y.1.ws.length cw) (.slice pa y.1.aHv.length ca) (.slice pr y.1.rs.length cr) (.slice po y.1.os.length co) (.slice pk y.1.ks.length ck)⟩:=r4;have EA:Row w4 w.heap.size 66 ⟨aHQ⟩:=((r1.mod o2 (by omega)).still s3).mod m4 (by omega);have o4:cU g w w4:=Mod.trans (tV.tr s3.only) m4 (λ_ h=>h) (λi hi e=>by omega);have h4:=(h2.still s3).mod m4 (by intro k hk e;omega);have aAO:dR w4 (λk=>w.heap.size+1<=k/\k<w4.heap.size) y.1 _:=((hnd.still s3).mod m4 (λk hk e=>by omega)).mono λk hk=>⟨by omega,by omega⟩;refine⟨_,_,_,r4.ai rfl,yo (λhk=>?_) (λhk=>⟨o4,?_⟩)⟩
 .have hk:y.1.ks≠[]:=by
   intro e;have:=aQ hk;rw[e]at this;exact absurd this (by decide)
  rw[aH hk];exact Sv r4 aAO o4 EA (lB _) λw' cs' m' o' hn'=>⟨o',_,rfl,hn',h4.mod m' λj hj e=>by omega⟩
 .have hk:y.1.ks=[]:=mC (by have:=aZ hk;omega)
  rw[aN hk]
def atk{w2:World}{g:Nat}{y:Nd×Ts}{e2:Ending}(agR:Row w2 w.heap.size 66 ⟨aHQ⟩)(o2:cU g w w2)(hg:g<w.heap.size){b:Nat}(NM:w.heap.size+1<=b)(fO:b<=w2.heap.size)(hp:∃cs,e2=.returned (.agg ⟨cs⟩)/\dR w2 (λk=>b<=k/\k<w2.heap.size) y.1 cs/\Pz w2 g y.2):∃pw cw pa ca pr cr po co pk ck,e2=.returned (.agg #[.int .i64 y.1.k,.bool y.1.neg,.string (S y.1.nm),.slice pw y.1.ws.length cw,.slice pa y.1.aHv.length ca,.slice pr y.1.rs.length cr,.slice po y.1.os.length co,.slice pk y.1.ks.length ck])/\Pz w2 g y.2/\
  ∀{K:World->Prop},(∀w4,Row w4 w2.heap.size 66 ⟨jg y.1 (.slice pw y.1.ws.length cw) (.slice pa y.1.aHv.length ca) (.slice pr y.1.rs.length cr) (.slice po y.1.os.length co) (.slice pk y.1.ks.length ck)⟩->Row w4 w.heap.size 66 ⟨aHQ⟩->cU g w w4->Pz w4 g y.2->dR w4 (λk=>w.heap.size+1<=k/\k<w2.heap.size) y.1 (jg y.1 (.slice pw y.1.ws.length cw) (.slice pa y.1.aHv.length ca) (.slice pr y.1.rs.length cr) (.slice po y.1.os.length co) (.slice pk y.1.ks.length ck))->w4.heap.size=w2.heap.size+1->K w4)->
   cP (w2.alloc (.cells ⟨aHQ⟩ 66)) (λw3=>cA (Addr.mk w2.heap.size 0 none) K 0 [.int .i64 y.1.k,.bool y.1.neg,.string (S y.1.nm),.slice pw y.1.ws.length cw,.slice pa y.1.aHv.length ca,.slice pr y.1.rs.length cr,.slice po y.1.os.length co,.slice pk y.1.ks.length ck] w3):=by
 have hl:=agR.lt;obtain⟨cs,rfl,hnd,h2⟩:=hp;obtain⟨pw,cw,pa,ca,pr,cr,po,co,pk,ck,rfl,_⟩:=hnd.outs;refine⟨pw,cw,pa,ca,pr,cr,po,co,pk,ck,rfl,h2,λ{K} hK=>aO λw3 r3 s3 z3=>bF r3 λw4 r4 m4 z4=>?_⟩;exact hK w4 r4 ((agR.still s3).mod m4 (by omega)) (Mod.trans (o2.tr s3.only) m4 (λ_ h=>h) (λi hi e=>by omega)) ((h2.still s3).mod m4 (by intro k hk e;have:=h2.lt;omega)) (((hnd.still s3).mod m4 (λk hk e=>by omega)).mono λk hk=>⟨by omega,by omega⟩) (by omega)
def aw3{L:Nat}(hL:L<100)(hc:wz L){g:Nat}{s:Ts}(h:Pz w g s)(hb:TB s):an PW #[.pointer (some ⟨g,0,none⟩),.int .i64 (31-((L+1:Nat):Int))] w (wQ w g (q_ (dB L).1 s)):=by
 apply akL;have hg:=h.lt;refine aO λw1 r1 s1 z1=>(qX (h.still s1) 0 (t:=tO) (by decide)).mono ?_;rintro _ w2 ⟨rfl,o2,h2⟩;have gU:=o2.size;have tV:=s1.only.tr o2;refine .inl ⟨_,rfl,yo (λht=>?_) (λht=>⟨tV,?_⟩)⟩;rotate_left
 .have:q_ (dB L).1 s=.bad 100:=by unfold q_;rw[aH (by rw[ht];decide)]
  rw[this]
 rw[aN ht]at h2;have A7:q_ (dB L).1 s=(B9 (dB L).1 s.tail).and λx=>aJo 0 jR x:=by unfold q_;rw[aN ht]
 rw[A7,ayq hL];refine(aw2 hc h2 (hb.qz (rX s))).mono ?_;rintro e3 w3 ⟨o3,hp⟩;have rA:=o3.size;have sQ:=tV.tr o3;cases hr:B9 (dB L).1 s.tail with
 |bad k=>rw[hr]at hp;exact .inr ⟨_,hp,sQ,rfl⟩
 |ok y=>
 rw[hr]at hp;obtain⟨pw,cw,pa,ca,pr,cr,po,co,pk,ck,rfl,_,hK⟩:=atk ((r1.mod o2 (by omega)).mod o3 (by omega)) sQ hg (b:=w2.heap.size) (by omega) rA hp;simp only[Rs.and];refine .inl ⟨_,_,_,_,_,_,_,_,_,_,_,_,_,_,_,_,_,_,rfl,hK λw5 r5 Cp o5 h5 hn5 z5=>?_⟩;refine(qX h5 0 (t:=jR) (by decide)).mono ?_;rintro _ w6 ⟨rfl,o6,h6⟩;have A4:=o6.size;refine .inl ⟨_,rfl,yo (λht=>?_) (λht=>⟨o5.tr o6,?_⟩)⟩
 .rw[aN ht]at h6
  unfold aJo;rw[aN ht];exact Sv (r5.mod o6 (by omega)) ((hn5.mod o6 λk hk e=>by omega).mono λk hk=>⟨hk.1,by omega⟩) (o5.tr o6) (Cp.mod o6 (by omega)) (lB _) λw' cs' m' o' hn'=>⟨o',_,rfl,hn',h6.mod m' λj hj e=>by omega⟩
 .unfold aJo
  rw[aH (by rw[ht];decide)]
def aw4{L:Nat}(hL:L<100)(hc:wz L){g:Nat}{x:Nat×ag}{r0:Ts}(h:Pz w g (x::r0))(hb:TB (x::r0)):an PT #[.pointer (some ⟨g,0,none⟩),.int .i64 (31-((L+1:Nat):Int))] w (wQ w g (oP (dB L).1 r0)):=by
 apply akI;have hg:=h.lt;have he:=(aKi L).1;have hbr:=hb.tail;refine aO λw1 r1 s1 z1=>(DL (h.still s1)).mono ?_;rintro _ w2 ⟨rfl,o2,h2⟩;have gU:=o2.size;have tV:=s1.only.tr o2;refine .inl ⟨_,_,rfl,λw8=>Still w2 w8/\∃t r,r0=(0,t)::r/\isName t=true,(aI_ h2 0).mono ?_,?_⟩
 .rintro _ w3 ⟨rfl,s3⟩
  refine .inl ⟨_,_,rfl,?_⟩
  try dsimp only[zR]
  rw[Lv];refine ax (λhx=>?_) (λhx=>?_)
  .obtain⟨t,r,rfl⟩:∃t r,r0=(0,t)::r:=by
    match r0,hx with
    |(k,t)::r,hx=>exact⟨t,r,by rw[show k=0 from aQ hx]⟩
   refine(aI_ (h2.still s3) 0).mono ?_;rintro _ w4 ⟨rfl,s4⟩;refine .inl ⟨_,_,rfl,(Z6 t hbr.head.1).mono ?_⟩;rintro _ w5 ⟨rfl,s5⟩;have zj:=(s3.trans s4).trans s5;refine .inl ⟨_,rfl,yo (λht=>⟨zj,t,r,rfl,ht⟩) (λht=>⟨tV.tr zj.only,?_⟩)⟩;have:oP (dB L).1 ((0,t)::r)=.bad 100:=by simp only[oP];rw[aH (by rintro⟨_,hn⟩;rw[show isName t=false from ht]at hn;cases hn)]
   rw[this]
  .refine yo (λhf=>by cases hf) (λ_=>⟨tV.tr s3.only,?_⟩)
   have:oP (dB L).1 r0=.bad 100:=by
    match r0,hx with
    |[],_=>rfl
    |(k,t)::r,hx=>simp only[oP];rw[aH (λhk=>aZ hx hk.1)]
   rw[this]
 rintro _ w8 ⟨s8,t,r,rfl,hname⟩;have hlv:oP (dB L).1 ((0,t)::r)=if cV 0 rB (fG r)=true then(lF qg [] (fG r).tail).and λx=>if cV 1 nX x.2=true\/cV 2 [10] x.2=true then uN (dB L).1 t x.1 [rB] x.2 else .bad 100
   else uN (dB L).1 t [] [] (fG r):=by
  simp only[oP];rw[aN ⟨trivial,hname⟩]
 rw[hlv];clear hlv;have NO:=s8.size;refine(DL (h2.still s8)).mono ?_;rintro _ w9 ⟨rfl,o9,h9⟩;have A3:=o9.size;refine .inl ⟨_,_,rfl,aO λaP aHJ iq aIt=>bF aHJ λbg gJ m11 wM=>?_⟩;have gJ:Row bg w9.heap.size 66 ⟨jg (.mk 8 false t [] [] [] [] []) (.slice none 0 0) (.slice none 0 0) (.slice none 0 0) (.slice none 0 0) (.slice none 0 0)⟩:=gJ;have Ei:Row bg w.heap.size 66 ⟨aHQ⟩:=((((r1.mod o2 (by omega)).still s8).mod o9 (by omega)).still iq).mod m11 (by omega);have rJ:cU g w bg:=Mod.trans (((tV.tr s8.only).tr o9).tr iq.only) m11 (λ_ h=>h) (λi hi e=>by omega);have h11:=(h9.still iq).mod m11 (by intro k hk e;omega);have EB:=NB.Oc (B:=w.heap.size+1) gJ rJ hg (by omega) (by omega) ⟨rfl,rfl,rfl,rfl,rfl⟩;generalize gY:w9.heap.size=gn at*;have aAP:=hbr.tail;refine(aKc h11).mono ?_;rintro _ bI ⟨rfl,agS,h12⟩;have Vp:=EB.on agS;have azn:=Ei.mod agS (by omega);have mQ:=aAP.qz (oC r);generalize fG r=l0 at*;generalize hres:(if cV 0 rB l0=true then(lF qg [] l0.tail).and λx=>if cV 1 nX x.2=true\/cV 2 [10] x.2=true then uN (dB L).1 t x.1 [rB] x.2 else .bad 100 else uN (dB L).1 t [] [] l0)=res;refine .inl ⟨rfl,λpU=>∃s9 ws os vw vo X,NB w pU g gn (w.heap.size+1) X (.mk 8 false t ws [] [] os []) vw (.slice none 0 0) (.slice none 0 0) vo (.slice none 0 0)/\Row pU w.heap.size 66 ⟨aHQ⟩/\Pz pU g s9/\s9<:+l0/\res=uN (dB L).1 t ws os s9,(qX h12 0 (t:=rB) (by decide)).mono ?_,?_⟩
 .rintro _ aHa ⟨rfl,sQ,qF⟩
  have Cr:=Vp.on sQ;have HF:=azn.mod sQ (by omega);refine .inl ⟨_,rfl,ax (λhx=>?_) (λhx=>?_)⟩;rotate_left
  .rw[aH (by rw[hx];decide)]at qF hres
   exact⟨l0,[],[],_,_,_,Cr,HF,qF,sZ _,hres.symm⟩
  rw[aN hx]at qF hres;refine atj (y:=rB) Cr λNh ct X15 Vs m15=>?_;have Vs:NB w ct g gn (w.heap.size+1) X15 (.mk 8 false t [] [] [] [rB] []) (.slice none 0 0) (.slice none 0 0) (.slice none 0 0) Nh (.slice none 0 0):=Vs;have azo:=HF.mod m15 (by omega);have AX:=qF.mod m15 (by intro k hk e;omega);have hl0:=mQ.1;have htl:=GV hx;refine⟨λbX=>∃s9 ws vw X,NB w bX g gn (w.heap.size+1) X (.mk 8 false t ws [] [] [rB] []) vw (.slice none 0 0) (.slice none 0 0) Nh (.slice none 0 0)/\Row bX w.heap.size 66 ⟨aHQ⟩/\Pz bX g s9/\s9<:+l0/\ws.length+s9.length<=l0.length/\lF qg ws s9=lF qg [] l0.tail,B_ g,⟨l0.tail,[],_,_,Vs,azo,AX,rX _,by simp only[cq];omega,rfl⟩,?_⟩;rintro _ bX ⟨s9,ws,vw,X,aLc,azp,aHT,pQ,hlen,heq⟩;have hm:=rR Zz ws s9;rw[heq]at hm;have aKA:=mQ.qz pQ;refine(aI_ aHT 0).mono ?_;rintro _ cF ⟨rfl,aIe⟩;have Ng:=aLc.still aIe;have afM:=azp.still aIe;have wN:=aHT.still aIe;refine .inl ⟨_,_,rfl,?_⟩
  try dsimp only[zR]
  rw[Lv];refine ax (λhy=>?_) (λhy=>?_)
  .have hst:qg ws s9=(nr s9).and λx=>.ok (.inl (ws++[x.1],x.2)):=by unfold qg;rw[aN hy]
   rw[hst]at hm;clear hst;refine aa9 Ng wN aKA (show ws.length<1000000 by omega) (λk w' hr o=>⟨o,?_⟩) (λz aAQ dI X18 hr aAR h18 m18=>?_)
   .rw[hr]at hm
    have hm:lF qg [] l0.tail=.bad k:=hm;rw[hm]at hres;rw[<-hres];rfl
   rw[hr]at hm;have hz1:=KU _ _ hr;have gU:=K3 _ _ hr;exact⟨⟨z.2,ws++[z.1],aAQ,X18,aAR,afM.mod m18 (by intro e;omega),h18,gU.trans pQ,by simp only[aHb,a_,cq];omega,hm.symm⟩,by rw[h18.len,aHT.len];omega⟩
  .have hst:qg ws s9=.ok (.inr (ws,s9)):=by unfold qg;rw[aH (by rw[hy];decide)]
   rw[hst]at hm;have hm:lF qg [] l0.tail=.ok (ws,s9):=hm;rw[hm,Rs.ae3]at hres;clear hst hm heq;refine aO λaHr CU j7 z19=>(vV (wN.still j7) 1 (cZ.row (l:=[nX]) CU) (by decide)).mono ?_;rintro _ gR ⟨rfl,mu⟩;rw[Ab (by decide)];have Uy:=j7.trans mu;have agT:=Ng.still Uy;have afN:=afM.still Uy;have nD:=wN.still Uy;refine .inl ⟨_,rfl,ax (λhx1=>?_) (λhx1=>?_)⟩
   .rw[aN (.inl hx1)]at hres
    exact yo (λ_=>⟨s9,ws,[rB],vw,Nh,X,agT,afN,nD,pQ,hres.symm⟩) (λhf=>by cases hf)
   .refine aO λfN aKt qI z21=>(vV (nD.still qI) 2 (cZ.row (l:=[[10]]) aKt) (by decide)).mono ?_
    rintro _ ju ⟨rfl,zq⟩;rw[Ab (by decide)];have Uz:=qI.trans zq;have agU:=agT.still Uz;refine .inl ⟨_,rfl,yo (λht=>?_) (λht=>⟨agU.only,?_⟩)⟩
    .rw[aN (.inr ht)]at hres
     exact⟨s9,ws,[rB],vw,Nh,X,agU,afN.still Uz,nD.still Uz,pQ,hres.symm⟩
    .rw[aH (by rw[hx1,ht];decide)]at hres
     rw[<-hres]
 .rintro _ pU ⟨s9,ws,os,vw,vo,X,aAS,azq,WO,pQ,rfl⟩
  clear hres;have hlv:uN (dB L).1 t ws os s9=(q_ (dB L).1 (fG (if cV 1 nX s9=true then s9.tail else s9))).and λb=>.ok (.mk 8 false t ws [] [] os [b.1],b.2):=rfl;rw[hlv];clear hlv;refine(qX WO 1 (t:=nX) (by decide)).mono ?_;rintro _ EM ⟨rfl,o29,h29⟩;have aAT:TB (if cV 1 nX s9=true then s9.tail else s9):=(mQ.qz pQ).qz (GW _ s9);generalize(if cV 1 nX s9=true then s9.tail else s9)=iq at*;refine .inl ⟨_,rfl,(aKc h29).mono ?_⟩;rintro _ nB ⟨rfl,o30,h30⟩;have agV:=(aAS.on o29).on o30;have azr:=(azq.mod o29 (by omega)).mod o30 (by omega);refine .inl ⟨rfl,(aw3 hL hc h30 (aAT.qz (oC _))).mono ?_⟩;rintro e31 wC ⟨WQ,hp⟩;have aAU:=agV.on WQ;cases hr:q_ (dB L).1 (fG iq)with
  |bad k=>rw[hr]at hp;exact .inr ⟨_,hp,aAU.only,rfl⟩
  |ok z=>
  rw[hr]at hp;obtain⟨cs,rfl,hnd,WR⟩:=hp;obtain⟨pw,cw,pa,ca,pr,cr,po,co,pk,ck,rfl,_⟩:=hnd.outs;refine .inl ⟨_,_,_,_,_,_,_,_,_,_,_,_,_,_,_,_,_,_,rfl,ati agV WQ hnd λagP pV X12 aAV m32=>?_⟩;exact K8 aAV ((azr.mod WQ (by omega)).mod m32 (by intro e;omega)) (lB _) λw' cs' m' o' hn'=>⟨o',_,rfl,hn',(WR.mod m32 (by intro k hk e;omega)).mod m' (λj hj e=>by omega)⟩
def avx{s:Ts}(hb:TB s){j:Nat}(hj:j<7)(h5:j≠5):r_ j≠tH ((((s[0]?).getD (2,[])).1:Nat):Int) ((s[0]?).getD (2,[])).2:=by
 intro h;have key:∀j,j<7->∃k:Nat,∃t,r_ j=tH (k:Int) t/\(j=5\/(k,t)∈Ar):=seven ⟨1,Ut,rfl,by decide⟩ ⟨0,aeP,rfl,by decide⟩ ⟨0,tIf,rfl,by decide⟩ ⟨0,aeR,rfl,by decide⟩ ⟨0,aeS,rfl,by decide⟩ ⟨0,aJr,rfl,.inl rfl⟩ ⟨0,afA,rfl,by decide⟩;obtain⟨k,t,e,hm⟩:=key j hj;have hm:=hm.resolve_left h5;rw[e]at h;obtain⟨h1,h2⟩:=Ls h
 match s,hb,h1,h2 with
 |[],_,h1,h2=>have h1:(k:Int)=2:=h1;have h2:t=[]:=h2;rw[h2,show k=2 by omega]at hm;exact absurd hm (by decide)
 |(k',t')::r,hb,h1,h2=>have h1:(k:Int)=(k':Int):=h1;have h2:t=t':=h2;rw[h2,show k=k' by omega]at hm;exact(hb.2.1 (k',t') (by simp)).2.2.2.1 hm
def aw5{s:Ts}(hb:TB s):wO 0 yj s=(cV 0 tO s||cV 0 jR s):=by
 match s,hb with
 |[],_=>rfl
 |(k,t)::r,hb=>
  have hm:=(hb.2.1 (k,t) (by simp)).2.2.2.1;show(decide (k=0)&&yj.contains t)=(decide (some (k,t)=some (0,tO))||decide (some (k,t)=some (0,jR)))
  by_cases hk:k=0
  .subst hk
   by_cases h1:t=tO
   .subst h1;decide
   by_cases h2:t=jR
   .subst h2;decide
   have hc:yj.contains t=false:=by
    refine Bool.eq_false_iff.2 λhc=>hm ?_;have hc:t∈yj:=by simpa using hc
    simp only[yj,gE,ug,uh]at hc;rcases hc with rfl|rfl|rfl|rfl|rfl|rfl|rfl|rfl<;>first|exact absurd rfl h1|exact absurd rfl h2|decide
   rw[hc];simp[h1,h2]
  .simp[hk]
def aw6{s:Ts}{k:Nat}{t:ag}(ht:t≠[])(h1:((k:Nat):Int)=((((s[0]?).getD (2,[])).1:Nat):Int))(h2:t=((s[0]?).getD (2,[])).2):∃r,s=(k,t)::r:=by
 cases s with
 |nil=>exact absurd h2 ht
 |cons x r=>obtain⟨k',t'⟩:=x;have h1:(k:Int)=(k':Int):=h1;have h2:t=t':=h2;exact⟨r,by rw[h2,show k=k' by omega]⟩
def Au.still{w':World}{g:Nat}{es:List (Value×Value)}(h:Au w g es)(hm:Still w w'):Au w' g es:=by obtain⟨ms,c,hg,hp⟩:=h;exact⟨ms,c,(hm.block g (aIf.1 hg).1 (λh=>h)).trans hg,hp⟩
def avy(r:Ts)(k:Nat){t:ag}(ht:t≠[]):(decide (((((r[0]?).getD (2,[])).1:Nat):Int)=(k:Int))&&((decide (((r[0]?).getD (2,[])).2=t))&&true))=cV k t r:=by
 cases r with
 |nil=>show(_&&((decide (([]:ag)=t))&&true))=false;have e:decide (([]:ag)=t)=false:=fY (λe=>ht e.symm);rw[e];simp
 |cons x r=>
  obtain⟨k',t'⟩:=x;show(decide ((k':Int)=(k:Int))&&(decide (t'=t)&&true))=decide (some (k',t')=some (k,t))
  by_cases hk:k'=k
  .subst hk
   simp
  .simp[hk]
   omega
def atl:cY aL (v_.getD 5 (0,[],0)).2.2=true:=by kernel_rfl
def avz:wz 0:=by intro w g s h hb;apply XB;refine aO λw1 r1 s1 z1=>ax (λ_=>⟨s1.only,rfl⟩) (λhd=>absurd (show(30:Int)<31-((0:Nat):Int) by decide) (aZ hd))
set_option maxRecDepth 10000 in
def arp{L:Nat}(hL:L<100)(hc:wz L):wz (L+1):=by
 intro w g s h hb;apply XB;have hg:=h.lt;refine aO λw1 r1 s1 z1=>ax (λhd=>absurd (aQ hd) (by omega)) (λ_=>?_);intro us w2 s2 z2 hmap;have h2:=(h.still s1).still s2;refine(aI_ h2 0).mono ?_;rintro _ w3 ⟨rfl,s3⟩;have h3:=h2.still s3;have aHK:=(s1.trans s2).trans s3;have Cq:=(r1.still s2).still s3;have tN:=Cq.lt;have hx:((s[0]?).getD (2,[])).1<1000/\((s[0]?).getD (2,[])).2.length<1000000:=by
  cases s with
  |nil=>exact⟨by decide,by decide⟩
  |cons x r=>exact⟨hb.kind,hb.head.1⟩
 refine .inl ⟨_,_,rfl,au6 (hmap.still s3) hx.1 hx.2 (λj hj hkey=>?_) (λhno=>?_)⟩
 ·by_cases h5:j=5
  rotate_left
  .exact absurd hkey (avx hb hj h5)
  obtain⟨r,rfl⟩:∃r,s=(0,aJr)::r:=by subst h5;exact aw6 (k:=0) (t:=aJr) (by decide) (Ls hkey).1 (Ls hkey).2
  have hcb:cY aL (v_.getD j (0,[],0)).2.2=true:=by subst h5;exact atl
  have B5:an (v_.getD j (0,[],0)).2.2 #[.pointer (some ⟨g,0,none⟩),.int .i64 (31-((L+1:Nat):Int))] w3 (wQ w3 g (oP (dB L).1 r)):=by subst h5;exact aw4 hL hc h3 hb
  have hlv:(dB (L+1)).1 ((0,aJr)::r)=oP (dB L).1 r:=by show pP (dB L).1 ((0,aJr)::r)=_;unfold pP;rw[aN (by simp[cV])];rfl
  rw[hlv];refine⟨λ_=>False,?_,λ_ _ (hf:False)=>hf.elim⟩;refine ax (c:=true) (λ_=>?_) (λhf=>by cases hf);show aq (cY aL (v_.getD j (0,[],0)).2.2) _ _
  refine ax (λ_=>?_) (λhf=>by rw[hcb]at hf;cases hf);refine B5.mono ?_;rintro e4 w4 ⟨o4,hp⟩;have o04:=aHK.only.tr o4;have A6:=o4.size;cases hr:oP (dB L).1 r with
  |bad k=>rw[hr]at hp;exact .inr ⟨_,hp,o04,rfl⟩
  |ok y=>
  rw[hr]at hp;obtain⟨cs,rfl,hnd,h4⟩:=hp;obtain⟨pw,cw,pa,ca,pr,cr,po,co,pk,ck,rfl,_⟩:=hnd.outs;have hno:th y.2=false:=hb.2.2 _ ((aqR (GX L).1 hr).trans (pe _ _));refine .inl ⟨_,_,_,_,_,_,_,_,_,_,_,_,_,_,_,_,_,_,rfl,aO λw5 r5 s5 z5=>bF r5 λw6 r6 m6 z6=>?_⟩;have r6:Row w6 w4.heap.size 66 ⟨jg y.1 (.slice pw y.1.ws.length cw) (.slice pa y.1.aHv.length ca) (.slice pr y.1.rs.length cr) (.slice po y.1.os.length co) (.slice pk y.1.ks.length ck)⟩:=r6;have o6:cU g w w6:=Mod.trans (o04.tr s5.only) m6 (λ_ h=>h) (λi hi e=>by omega);have h6:=(h4.still s5).mod m6 (by intro k hk e;have:=h4.lt;omega);have Nf:Row w6 w.heap.size 66 ⟨aHQ⟩:=((Cq.mod o4 (by omega)).still s5).mod m6 (by omega);have aAW:=((hnd.still s5).mod m6 (λk hk (e:k=w4.heap.size)=>by omega)).mono (G:=λk=>w.heap.size+1<=k/\k<w6.heap.size) λk hk=>⟨by omega,by omega⟩;refine⟨λw7=>w7=w6,λ_=>0,rfl,?_⟩;rintro _ w7 rfl;refine(Zd h6).mono ?_;rintro _ w8 ⟨rfl,s8⟩;rw[hno];refine .inl ⟨_,rfl,ax (λh=>by cases h) (λ_=>?_)⟩;have NO:=s8.size;exact Sv (r6.still s8) ((aAW.still s8).mono λk hk=>⟨hk.1,by omega⟩) (o6.tr s8.only) (Nf.still s8) (lB _) λw' cs' m' o' hn'=>⟨o',_,rfl,hn',(h6.still s8).mod m' λj hj e=>by omega⟩
 have hf:cV 0 aJr s=false:=by
  cases h:cV 0 aJr s with
  |false=>rfl
  |true=>have e:=DP h;refine absurd ?_ (hno 5 (by decide));rw[e];exact rfl
 have hlv:(dB (L+1)).1 s=if(cV 0 tO s||cV 0 jR s)=true then .bad 100 else pE s:=by show pP (dB L).1 s=_;unfold pP;rw[aH (by rw[hf];decide)]
 rw[hlv];clear hlv;refine⟨λrz=>Still w3 rz/\(cV 0 tO s||cV 0 jR s)=false,ax (λhf=>by cases hf) (λ_=>?_),?_⟩;rotate_left
 .rintro _ rz ⟨aLg,hcl⟩
  rw[aH (by rw[hcl];decide)];have afO:=Cq.still aLg;have o27:=(aHK.trans aLg).only (g:=g);have aFN:=afO.lt;refine(apY (h3.still aLg) hb).mono ?_;rintro e28 pU ⟨o28,hp⟩;have agW:=o27.tr o28;cases hr:pE s with
  |bad k=>rw[hr]at hp;exact .inr ⟨_,hp,agW,rfl⟩
  |ok y=>
  rw[hr]at hp;obtain⟨cs,rfl,hnd,WO⟩:=hp;obtain⟨pw,cw,pa,ca,pr,cr,po,co,pk,ck,rfl,_⟩:=hnd.outs;refine .inl ⟨_,_,_,_,_,_,_,_,_,_,_,_,_,_,_,_,_,_,rfl,bF (afO.mod o28 (by omega)) λw' r' m' z'=>?_⟩;refine⟨_,_,_,_,_,_,_,_,_,_,_,_,_,_,_,_,_,_,r'.ai rfl,r'.ai rfl,r'.ai rfl,r'.ai rfl,r'.ai rfl,r'.ai rfl,r'.ai rfl,r'.ai rfl,Mod.trans agW m' (λ_ h=>h) (λi hi e=>by omega),?_⟩;exact⟨_,rfl,(hnd.mod m' λk hk e=>by omega).mono λk hk=>⟨by omega,by omega⟩,WO.mod m' λj hj e=>by omega⟩
 refine⟨λb dI=>Still w3 dI/\b=(cV 0 tO s||cV 0 jR s),ZF.mono ?_,?_⟩
 .rintro _ bR ⟨q,rfl,hq,ji⟩
  refine .inl ⟨_,_,_,rfl,(vV (h3.still ji) 0 hq (by decide)).mono ?_⟩;rintro _ ct ⟨rfl,vt⟩;rw[aw5 hb];refine .inl ⟨_,rfl,ax (λ_=>⟨ji.trans vt,rfl⟩) (λhx=>?_)⟩;refine aO λbX r16 mw Oh=>(vV (((h3.still ji).still vt).still mw) 0 (cZ.row (l:=[tu]) r16) (by decide)).mono ?_;rintro _ cF ⟨rfl,aIe⟩;exact .inl ⟨_,rfl,((ji.trans vt).trans mw).trans aIe,by rw[Ab (by decide),hx];exact hb.M1 (by decide)⟩
 rintro b _ dI ⟨lp,rfl⟩;have h18:=h3.still lp;have aAX:=(aHK.trans lp).only (g:=g);refine ax (λhrb=>⟨aAX,by rw[aN hrb];exact rfl⟩) (λhcl=>?_);refine⟨λb pS=>Still w3 pS/\b=false,(aI_ h18 0).mono ?_,?_⟩
 .rintro _ aHr ⟨rfl,j7⟩
  refine .inl ⟨_,_,rfl,?_⟩
  try dsimp only[zR]
  rw[Lv];refine ax (λhw=>?_) (λhw=>⟨lp.trans j7,rfl⟩);obtain⟨t,r,rfl⟩:∃t r,s=(0,t)::r:=by
   match s,hw with
   |(k,t)::r,hw=>exact⟨t,r,by rw[show k=0 from aQ hw]⟩
  refine(aI_ (h18.still j7) 0).mono ?_;rintro _ gR ⟨rfl,mu⟩;refine .inl ⟨_,_,rfl,(Z6 t hb.head.1).mono ?_⟩;rintro _ fN ⟨rfl,qI⟩;have UA:=(j7.trans mu).trans qI;refine .inl ⟨_,rfl,ax (λhn=>?_) (λ_=>⟨lp.trans UA,rfl⟩)⟩;refine(aI_ (h18.still UA) 1).mono ?_;rintro _ ju ⟨rfl,zq⟩;have e1:((0,t)::r)[1]?=r[0]?:=rfl;rw[e1];refine .inl ⟨_,_,rfl,?_⟩
  try dsimp only[zR]
  rw[show(decide (((((r[0]?).getD (2,[])).1:Nat):Int)=(1:Int))&&((decide (((r[0]?).getD (2,[])).2=[40]))&&true))=cV 1 Ut r from avy r 1 (by decide),hb.tail.M1 (by decide)];exact ax (λh=>by cases h) (λ_=>⟨(lp.trans UA).trans zq,rfl⟩)
 rintro b _ pS ⟨aHU,rfl⟩;exact ax (λhf=>by cases hf) (λ_=>⟨aHU,hcl⟩)
def ab_:∀L,L<100->wz L
 |0,_=>avz
 |L+1,h=>arp (by omega) (ab_ L (by omega))
end Go.Proofs.YtihaaoehhgmphaaGreatDoor.L
namespace Go.Proofs.YtihaaoehhgmphaaGreatDoor.L
open IntKind Go.RowKit Vc
def arq(p q:Addr)(w:World):
  CallsD aL 53 #[.pointer (some p),.pointer (some q)] .returning w λe u' w'=>e=.returned (.tuple #[])/\u'=.returning/\w'=w:=by
 refine callsD_of_wpS Tryz.func53 rfl λc₀ cs hu=>?_;apply wpS_seq;apply wpS_region;simp[wpOpsS,go_sem,recoverD,hu,Tryz.ntmps53,Exit.thenS];apply wpS_seq;apply wpS_region;simp[wpOpsS,go_sem,Tryz.ntmps53,Exit.thenS];refine wpS_cond (t:=false) (by simp[Act.eval,Array.replicate]) ?_;simp only[l9,jq];refine wpS_of_wp (wp_skip ?_);cases c₀;simp_all [bodyPostS,results,Tryz.results53]
def ao5(p q:Addr)(n:Int)(w:World)(P:World->Prop)(h:cA p (λw1=>cA q P 0 [.int .i64 n] w1) 0 [(.int .i64 0),(.bool false),(.string (S ([]:List UInt8))),(.slice none 0 0),(.slice none 0 0),(.slice none 0 0),(.slice none 0 0),(.slice none 0 0)] w.drew):
  CallsD aL 53 #[.pointer (some p),.pointer (some q)] (.panicking [{v:=.iface 28 (.int .i64 n),recovered:=false}]) w λe u' w'=>e=.returned (.tuple #[])/\settle u'=.returning/\P w':=by
 refine callsD_of_wpS Tryz.func53 rfl λc₀ cs hu=>?_;apply wpS_seq;apply wpS_region;simp[wpOpsS,go_sem,recoverD,hu,Tryz.ntmps53,Exit.thenS];apply wpS_seq;apply wpS_region;simp[wpOpsS,go_sem,Tryz.ntmps53,Exit.thenS];refine wpS_cond (t:=true) (by simp[Act.eval,Array.replicate]) ?_;simp only[pq];refine wpS_of_wp ?_;have et:(#[Value.pointer (some p),Value.pointer (some q)]++((((Array.replicate 7 undef).setIfInBounds 1 (Value.iface 28 (Value.int i64 n))).setIfInBounds 0 (Value.iface 28 (Value.int i64 n))).setIfInBounds 2 (Value.iface 28 (Value.int i64 n))).setIfInBounds 3 (Value.bool true))=
   ⟨[.pointer (some p),.pointer (some q),.iface 28 (.int .i64 n),.iface 28 (.int .i64 n),.iface 28 (.int .i64 n),.bool true,undef,undef,undef]⟩:=by rfl
 rw[et];refine Gb (P:=aL) (m:=.held) (ds:=[]) (l:=[.pointer (some p),.pointer (some q),.iface 28 (.int .i64 n),.iface 28 (.int .i64 n),.iface 28 (.int .i64 n),.bool true,undef,undef,undef]) (K:=λl' w'=>P w') (E:=λ_ _=>False) (Eq.mp (α:=∃Sw:World->Prop,Sw w.drew/\(cA p (λw1=>cA q P 0 [.int .i64 n] w1) 0 [(.int .i64 0),(.bool false),(.string (S ([]:List UInt8))),(.slice none 0 0),(.slice none 0 0),(.slice none 0 0),(.slice none 0 0),(.slice none 0 0)] w.drew)/\(cA p (λw1=>cA q P 0 [.int .i64 n] w1) 0 [(.int .i64 0),(.bool false),(.string (S ([]:List UInt8))),(.slice none 0 0),(.slice none 0 0),(.slice none 0 0),(.slice none 0 0),(.slice none 0 0)] w.drew)) (by kernel_rfl) ⟨λ_=>True,trivial,h,h⟩) ?_ ?_
 .intro l' w' _ hP
  cases c₀;simp_all [bodyPostS,results,Tryz.results53,act,settle]
 .intro l' c w' _ h
  exact h.elim
def R8:∀n,Ends (aIn n)
 |0=>λs t h=>by cases h
 |n+1=>by
  intro s t h;rw[aIn]at h;split at h
  .obtain rfl:=bO h;exact sZ _
  .split at h
   .rename_i x hx
    exact(R8 n _ _ h).trans (R1 30 _ _ hx)
   .cases h
def acd:∀n s t,aIn n s=some t->mP t=true
 |0,s,t,h=>by cases h
 |n+1,s,t,h=>by
  rw[aIn]at h;split at h
  .rename_i he
   obtain rfl:=bO h;exact he
  .split at h
   .exact acd n _ _ h
   .cases h
def ac5:∀(n:Nat) (p:ag),p.length<=n->∀t t',vg t t'->mP t'=true->nY (p++t)=some t->nY (p++t')=some t'
 |_,[],_,t,t',_,he,_=>R6 he
 |0,a::p,hn,t,t',_,_,h=>absurd hn (by simp)
 |n+1,a::p,hn,t,t',hs,he,h=>by
  simp only[a_]at hn
  by_cases hb:tB a=true
  .rw[R6 (s:=a::p++t) hb]at h
   have:=fT List.length (bO h);simp at this;omega
  .have gy:mP (a::p++t)=false:=by simpa[mP]using hb
   have fO:mP (a::p++t')=false:=by simpa[mP]using hb
   cases hu:fH 30 (a::p++t)with
   |none=>rw[R7 gy hu]at h;cases h
   |some x=>rw[K6 gy hu]at h;obtain⟨z,y,rfl,hz⟩:=acQ (R8 _ _ _ h) (R1 30 _ _ hu);have hlen:=s_ 30 _ _ hu;rw[hz]at hu fO hlen⊢;have hzl:=fT List.length hz;simp only[aHb,a_]at hlen hzl;rw[j9]at hu fO⊢;rw[K6 fO ((adX 30).1 _ _ _ (hs.app y) hu)];exact ac5 n y (by omega) t t' hs he h
def aae{a:UInt8}{r t:ag}{l:List Tok}(h:kz a r=some (l,t)):
  ((a=32\/a=9)/\l=[]/\t=r)\/(a=35/\l=[]/\t=aHX r)\/(a=10/\l=[(2,[10])]/\t=r)\/
  ((¬(a=32\/a=9)/\¬a=35/\¬a=10)/\tB a=true/\l=[(1,(a::r).take (gP (a::r)))]/\t=(a::r).drop (gP (a::r)))\/
  ((¬(a=32\/a=9)/\¬a=35/\¬a=10)/\tB a=false/\∃p,p≠[]/\a::r=p++t/\nY (p++t)=some t/\l=[(0,p)]):=by
 unfold kz at h
 by_cases h1:a=32\/a=9
 .rw[aN h1]at h
  obtain⟨rfl,rfl⟩:=aIY .. ▸bO h;exact .inl ⟨h1,rfl,rfl⟩
 rw[aH h1]at h
 by_cases h2:a=35
 .rw[aN h2]at h
  obtain⟨rfl,rfl⟩:=aIY .. ▸bO h;exact .inr (.inl ⟨h2,rfl,rfl⟩)
 rw[aH h2]at h
 by_cases h3:a=10
 .rw[aN h3]at h
  obtain⟨rfl,rfl⟩:=aIY .. ▸bO h;exact .inr (.inr (.inl ⟨h3,rfl,rfl⟩))
 rw[aH h3]at h
 by_cases h4:tB a=true
 .rw[aN h4]at h
  obtain⟨rfl,rfl⟩:=aIY .. ▸bO h;exact .inr (.inr (.inr (.inl ⟨⟨h1,h2,h3⟩,h4,rfl,rfl⟩)))
 rw[aH h4]at h;have h4:tB a=false:=by simpa using h4
 refine .inr (.inr (.inr (.inr ⟨⟨h1,h2,h3⟩,h4,?_⟩)));split at h
 .rename_i t' ht
  obtain⟨rfl,rfl⟩:=aIY .. ▸bO h;obtain⟨p,hp⟩:=R8 _ _ _ ht;have hlen:=RD (s:=a::r) h4 ht;refine⟨p,?_,hp.symm,by rw[hp];exact ht,?_⟩
  .rintro rfl
   rw[<-hp]at hlen;simp at hlen
  .rw[<-hp]
   simp
 .cases h
def apZ{a:UInt8}{r t p:ag}(h:¬(a=32\/a=9)/\¬a=35/\¬a=10)(he:tB a=false)(hp:a::r=p++t)(hw:nY (p++t)=some t):kz a r=some ([(0,p)],t):=by unfold kz;rw[aH h.1,aH h.2.1,aH h.2.2,aH (by rw[he];decide),hp,hw];simp
def atm{a:UInt8}{r:ag}(h:¬(a=32\/a=9)/\¬a=35/\¬a=10)(he:tB a=true):kz a r=some ([(1,(a::r).take (gP (a::r)))],(a::r).drop (gP (a::r))):=by unfold kz;rw[aH h.1,aH h.2.1,aH h.2.2,aN he]
def atn{a c:UInt8}{r u:ag}(hc:c=10\/c=32):gP (a::(r++c::u))=gP (a::r):=by
 cases r with
 |nil=>show(if a=c/\([38,124,59,62]:ag).contains a=true then 2 else 1)=1;rw[aH];rintro⟨rfl,h⟩;rcases hc with rfl|rfl<;>exact absurd h (by decide)
 |cons b r=>rfl
def aaf(r y:ag):aHX (r++y)=if aHX r=[]then aHX y else aHX r++y:=by
 induction r with
 |nil=>rfl
 |cons a r ih=>
  simp only[qP,aHX];split
  .simp
  .exact ih
def S6{a:UInt8}{r t:ag}{l:List Tok}(h:kz a r=some (l,t)):toks (a::r)=(toks t).map (l++·):=by rw[Li,h];rfl
def aw7(o:Option (List Tok))(l m:List Tok):(o.map (m++·)).map (l++·)=o.map ((l++m)++·):=by cases o<;>simp
def map_nil(o:Option (List Tok)):o.map (([]:List Tok)++·)=o:=by cases o<;>simp
def ac6{y u:ag}{c:UInt8}(hy:y=c::u)(hc:c=10\/c=32)(hl:toks (aHX y)=toks y):∀(n:Nat) (s:ag),s.length<=n->∀l,toks s=some l->toks (s++y)=(toks y).map (l++·)
 |_,[],_,l,h=>by obtain rfl:=bO h;rw[map_nil];rfl
 |0,a::r,hn,l,h=>absurd hn (by simp)
 |n+1,a::r,hn,l,h=>by
  have ih:=ac6 hy hc hl n;simp only[a_]at hn;rw[Li]at h;obtain⟨⟨l1,t⟩,hone,h⟩:=XG.1 h;obtain⟨l2,h2,rfl⟩:=O_.1 h;dsimp only at h2;have hlen:=(KI hone).1;have more:kz a (r++y)=some (l1,t++y)->toks (a::r++y)=(toks y).map ((l1++l2)++·):=by intro h;rw[qP,S6 h,ih t (by omega) l2 h2,aw7]
  rcases aae hone with⟨h1,rfl,rfl⟩|⟨rfl,rfl,rfl⟩|⟨rfl,rfl,rfl⟩|⟨h1,he,rfl,rfl⟩|⟨h1,he,p,hp0,hp,hw,rfl⟩
  .exact more (by unfold kz;rw[aN h1])
  ·by_cases hle:aHX r=[]
   .have h0:kz 35 (r++y)=some ([],aHX y):=by
     show some (([]:List Tok),aHX (r++y))=_;rw[aaf,aN hle]
    rw[hle]at h2;obtain rfl:=bO h2;rw[qP,S6 h0,hl];rfl
   .refine more ?_
    show some (([]:List Tok),aHX (r++y))=_;rw[aaf,aH hle]
  .exact more rfl
  .refine more ?_
   have hol:=(Lt (a:=a) (r:=r)).2;rw[atm h1 he,hy,atn hc];have e1:a::(r++c::u)=(a::r)++c::u:=rfl;rw[e1,OS hol,List.drop_append_of_le_length hol]
  .refine more (apZ h1 he (by rw[<-j9,<-hp];rfl) ?_)
   have hs:vg t (t++y):=by
    cases t with
    |nil=>rw[hy];intro d r' hd hk;injection hd with hd1 hd2;subst hd1;rcases hc with rfl|rfl<;>rcases hk with hk|hk<;>cases hk
    |cons b t=>exact vg.head b _ _
   have he:mP (t++y)=true:=by
    cases t with
    |nil=>rw[hy];rcases hc with rfl|rfl<;>rfl
    |cons b t=>exact(show mP (b::t++y)=mP (b::t)from rfl).trans (acd _ _ _ hw)
   exact ac5 _ p (aR _) _ _ hs he hw
def ato(s t:ag){l k:List Tok}(hs:toks s=some l)(ht:toks t=some k):toks (s++[10]++t)=some (l++[(2,[10])]++k):=by
 have h1:toks (10::t)=some ((2,[10])::k):=by rw[S6 (l:=[(2,[10])]) (t:=t) rfl,ht];rfl
 rw[j9];show toks (s++10::t)=_
 rw[ac6 rfl (.inl rfl) rfl _ s (aR _) l hs,h1];simp
end Go.Proofs.YtihaaoehhgmphaaGreatDoor.L
namespace Go.Proofs.YtihaaoehhgmphaaGreatDoor.L
open IntKind
def aa_:∀(n:Nat) (s:ag),s.length<=n->∀l,toks s=some l->l.length<=s.length/\∀x∈l,x.2.length<=s.length/\x.2≠[]/\x.1<3
 |_,[],_,l,h=>by rw[ac4]at h;obtain rfl:=bO h;exact⟨aR _,λx hx=>by cases hx⟩
 |0,a::r,hn,_,_=>by simp only[a_]at hn;omega
 |n+1,a::r,hn,l,h=>by
  rw[Li]at h;cases h1:kz a r with
  |none=>rw[h1]at h;cases h
  |some y=>
   obtain⟨l1,t⟩:=y;rw[h1]at h;simp only[Option.bind]at h;cases h2:toks t with
   |none=>rw[h2]at h;cases h
   |some m=>
    rw[h2]at h;obtain rfl:=bO h;have hlen:=KI h1;simp only[a_]at hn⊢;obtain⟨i1,i2⟩:=aa_ n t (by omega) m h2;refine⟨by rw[aHb];omega,λx hx=>?_⟩;rcases mE.1 hx with hx|hx
    .rcases aae h1 with⟨_,rfl,rfl⟩|⟨_,rfl,rfl⟩|⟨_,rfl,rfl⟩|⟨_,_,rfl,rfl⟩|⟨_,_,p,hp,hpt,_,rfl⟩
     .cases hx
     .cases hx
     .obtain rfl:=jb.1 hx
      exact⟨by simp,by simp,by show 2<3;decide⟩
     .obtain rfl:=jb.1 hx
      have ho:=Lt (a:=a) (r:=r);simp only[a_]at ho;refine⟨?_,λe=>?_,by show 1<3;decide⟩
      .rw[eZ,a_]
       omega
      .have:=fT List.length e
       rw[eZ,a_]at this;simp only[cq]at this;omega
     .obtain rfl:=jb.1 hx
      refine⟨?_,hp,by show 0<3;decide⟩;have:=fT List.length hpt;simp only[a_,aHb]at this;show p.length<=_
      omega
    .obtain⟨j1,j2,j3⟩:=i2 x hx
     exact⟨by omega,j2,j3⟩
def yu:Ts->Bool
 |[]=>true
 |x::r=>!(decide (x=(0,jR))&&th r)&&yu r
def ace:∀{s:Ts},yu s=true->∀r,(0,jR)::r<:+s->th r=false
 |[],_,r,hr=>by simp at hr
 |x::s,h,r,hr=>by
  simp only[yu,e_,aJ3,Jy,zy]at h;rcases List.suffix_cons_iff.1 hr with e|e
  .injection e with e1 e2
   subst e2;exact h.1.resolve_left λhne=>hne e1.symm
  .exact ace h.2 r e
def B2(s:ag):Bool:=((iN s).1.all λx=>!(Ar.contains x)&& !(x.2.contains 123))&&yu (iN s).1
def atp(s:ag)(hp:B2 s=true):TB (iN s).1:=by
 unfold B2 at hp;rw[e_]at hp;obtain⟨hp,hd⟩:=hp;have hd:=ace hd;have hp:∀x∈(iN s).1,x∉Ar/\123∉x.2:=λx hx=>by have:=nO.1 hp x hx;simpa using this
 revert hp hd;unfold iN;split
 .exact λhd _=>⟨by simp,λx hx=>(by cases hx),hd⟩
 .split
  .intro hd hp
   rename_i nD _ l hl;obtain⟨h1,h2⟩:=aa_ _ s (aR _) l hl;refine⟨by show l.length<=_;omega,λx hx=>?_,hd⟩;obtain⟨j1,j2,j3⟩:=h2 x hx;exact⟨by omega,j2,by omega,hp x hx⟩
  .exact λhd _=>⟨by simp,λx hx=>(by cases hx),hd⟩
def nd0:Nd:=.mk 0 false [] [] [] [] [] []
def pK(s:ag):Nd×Int:=if B2 s=false then(nd0,999)else if(iN s).2=0 then match DU (iN s).1 with
 |.ok x=>(x,0)
 |.bad k=>(nd0,(k:Int))
 else(nd0,(iN s).2)
end Go.Proofs.YtihaaoehhgmphaaGreatDoor.L
namespace Go.Proofs.YtihaaoehhgmphaaGreatDoor.L
open IntKind Go.RowKit Vc
variable{w:World}
def DQ(w:World)(F:Nat->Prop):dR w F nd0 aHQ:=by
 refine⟨_,_,_,_,none,0,rfl,?_,?_,?_,?_,aR _,λh=>absurd rfl h⟩
 .exact⟨none,0,rfl,aR _,λh=>absurd rfl h⟩
 .exact⟨none,0,rfl,aR _,λh=>absurd rfl h⟩
 .exact⟨none,0,rfl,aR _,λh=>absurd rfl h⟩
 .exact⟨none,0,rfl,aR _,λh=>absurd rfl h⟩
def afP(w:World)(F:Nat->Prop):∀l:List Tok,V7.Cs w F l (tc l)
 |[]=>rfl
 |x::r=>⟨[.int .i64 (x.1:Int),.string (S x.2)],tc r,rfl,rfl,afP w F r⟩
def aw8{B:Nat}{v:Value}{l:List Tok}(hv:∃p C,v=.slice p l.length C)(h:aS w B 203 2 v l.length (tc l)):V7.At w (λk=>B<=k/\k<w.heap.size) l v:=by obtain⟨p,C,rfl⟩:=hv;exact aHd.aHj.at (X:=λk=>k<w.heap.size) (gn:=w.heap.size) ⟨p,C,tc l,rfl,h,λk hk=>⟨(h.lt k hk).2,Dx (h.lt k hk).2⟩,afP _ _ _⟩
def K9{w4:World}{ge:Nat}{x:Nd}{cs:List Value}{er:Int}{R:Ending->World->Prop}(hr:Row w4 w.heap.size 66 ⟨cs⟩)(he:Row w4 ge 28 ⟨[.int .i64 er]⟩)(hn:dR w4 (λk=>w.heap.size<=k/\k<w4.heap.size) x cs)
  (hR:R (.returned (.tuple #[.agg ⟨cs⟩,.int .i64 er])) w4):∃bZ:Int,∃eH:Bool,∃b_:List UInt8,∃(aHq:Option Addr) (aHo eu:Nat),∃(aHm:Option Addr) (aHk aHl:Nat),∃(aHp:Option Addr) (eo aHn:Nat),∃(eL:Option Addr) (eD eE:Nat),∃(eF:Option Addr) (eA eB:Nat),w4.cell? (Addr.mk w.heap.size 0 none)=some (.int .i64 bZ)/\w4.cell? (Addr.mk w.heap.size 1 none)=some (.bool eH)/\w4.cell? (Addr.mk w.heap.size 2 none)=some (.string (S b_))/\w4.cell? (Addr.mk w.heap.size 3 none)=some (.slice aHq aHo eu)/\w4.cell? (Addr.mk w.heap.size 4 none)=some (.slice aHm aHk aHl)/\w4.cell? (Addr.mk w.heap.size 5 none)=some (.slice aHp eo aHn)/\w4.cell? (Addr.mk w.heap.size 6 none)=some (.slice eL eD eE)/\w4.cell? (Addr.mk w.heap.size 7 none)=some (.slice eF eA eB)/\∃v2:Int,w4.cell? (Addr.mk ge 0 none)=some (.int .i64 v2)/\R (.returned (.tuple #[(.agg #[(.int .i64 bZ),(.bool eH),(.string (S b_)),(.slice aHq aHo eu),(.slice aHm aHk aHl),(.slice aHp eo aHn),(.slice eL eD eE),(.slice eF eA eB)]),(.int .i64 v2)])) w4:=by
 obtain⟨pw,cw,pa,ca,pr,cr,po,co,pk,ck,rfl,_⟩:=hn.outs;exact⟨_,_,_,_,_,_,_,_,_,_,_,_,_,_,_,_,_,_,hr.ai rfl,hr.ai rfl,hr.ai rfl,hr.ai rfl,hr.ai rfl,hr.ai rfl,hr.ai rfl,hr.ai rfl,_,he.ai rfl,hR⟩
def ayr(w:World)(r:Nd×Int)(e:Ending)(w':World):Prop:=∃cs,e=.returned (.tuple #[.agg ⟨cs⟩,.int .i64 r.2])/\dR w' (λk=>w.heap.size<=k/\k<w'.heap.size) r.1 cs/\Still w w'
def aba(s:ag)(hs:(pK s).2=0):an Kk #[.string (S s)] w (ayr w (pK s)):=by
 have hpl:B2 s=true:=by
  cases h:B2 s with
  |true=>rfl
  |false=>unfold pK at hs;rw[aN h]at hs;cases hs
 apply aml;refine aO λw1 r1 s1 z1=>aO λw2 r2 s2 z2=>(apT s).mono ?_;rintro _ w3 ⟨p,C,rfl,ho,s3⟩;have Cq:Row w3 w.heap.size 66 ⟨aHQ⟩:=(r1.still s2).still s3;have er3:=r2.still s3;have rA:=s3.size;refine .inl ⟨_,_,_,_,rfl,bF er3 λw4 E2 m4 z4=>?_⟩;have E2:Row w4 w1.heap.size 28 ⟨[.int .i64 (iN s).2]⟩:=E2;have EA:=Cq.mod m4 (by omega);have mo:Still w w4:=Mod.trans ((s1.trans s2).trans s3) m4 (λ_ h=>h) (λi hi e=>by omega);have V_:=(aw8 ⟨_,_,rfl⟩ ho);refine⟨_,E2.ai rfl,ax (λhx=>?_) (λhx=>?_)⟩
 .have hne:(iN s).2≠0:=by simpa using hx
  have hp:pK s=(nd0,(iN s).2):=by unfold pK;rw[aH (by rw[hpl];decide),aH hne]
  rw[hp];have agX:=E2.still (jd w4);have azs:=EA.still (jd w4);refine⟨λwq=>wq.cell? (Addr.mk w1.heap.size 0 none)=some (.int .i64 (iN s).2),agX.ai rfl,_,λ_ h=>h,bF azs λw5 r5 m5 z5=>?_⟩;have er5:=agX.mod m5 (by omega);refine⟨er5.ai rfl,bF er5 λw6 er6 m6 z6=>?_⟩;have r6:Row w6 w.heap.size 66 ⟨aHQ⟩:=(show Row w5 w.heap.size 66 ⟨aHQ⟩from r5).mod m6 (by omega);have nG:Still w w6:=Mod.trans (Mod.trans (mo.trans (jd w4)) m5 (λ_ h=>h) (λi hi e=>by omega)) m6 (λ_ h=>h) (λi hi e=>by omega);exact K9 r6 er6 (DQ _ _) ⟨_,rfl,DQ _ _,nG⟩
 .have wG:(iN s).2=0:=by simpa using hx
  have hp:pK s=match DU (iN s).1 with
   |.ok x=>(x,0)
   |.bad k=>(nd0,(k:Int)):=by unfold pK;rw[aH (by rw[hpl];decide),aN wG];try cases DU (iN s).1<;>rfl
  rw[hp];have hb:=atp s hpl;rw[wG]at E2;generalize(iN s).1=ts at*;refine aO λw7 r7 s7 z7=>?_;have er7:=E2.still s7;have aAY:=EA.still s7;have hpz:Pz w7 w4.heap.size ts:=by refine⟨p,C,r7,?_⟩;refine V_.dO (λk hk=>by omega) λa v ⟨k,hk,ea⟩ hcell=>s7.cell (vQ m4 (by rw[ea];omega) hcell)
  have hl:=ad4 (L:=30) (ab_ 30 (by decide)) hpz hb;have e1:(31-((30:Nat):Int))=1:=by decide
  rw[e1]at hl;refine hl.mono ?_;rintro e8 w8 ⟨o8,C2⟩;have er8:=er7.mod o8 (by omega);have agY:=aAY.mod o8 (by omega);have NO:=o8.size;have hz7:w.heap.size+2<=w4.heap.size:=by omega
  have zi:Still w w8:=Mod.trans (mo.trans s7) o8 (λ_ h=>h) (λi hi e=>by omega);have panics:∀(k:Nat) (w9:World) (cs:List Value) (hcs:cs.length=8),Row w9 w.heap.size 66 ⟨cs⟩->Row w9 w1.heap.size 28 ⟨[.int .i64 0]⟩->Still w w9->∀K:Ending->FrameMode->World->Prop,(∀w',Row w' w.heap.size 66 ⟨aHQ⟩->Row w' w1.heap.size 28 ⟨[.int .i64 (k:Int)]⟩->Still w w'->∀u,settle u=.returning->K (.returned (.tuple #[])) u w')->
    CallsD aL J7 #[.pointer (some ⟨w.heap.size,0,none⟩),.pointer (some ⟨w1.heap.size,0,none⟩)] (.panicking (rj k)) w9 K:=by
   intro k w9 cs hcs tU he9 s9 K hK;refine(ao5 ⟨w.heap.size,0,none⟩ ⟨w1.heap.size,0,none⟩ k w9 (λw'=>Row w' w.heap.size 66 ⟨aHQ⟩/\Row w' w1.heap.size 28 ⟨[.int .i64 (k:Int)]⟩/\Still w w') ?_).mono ?_
   .have aAZ:=tU.still (jd w9)
    have aA0:=he9.still (jd w9);obtain⟨a0,a1,a2,a3,a4,a5,a6,a7,rfl⟩:∃a0 a1 a2 a3 a4 a5 a6 a7,cs=[a0,a1,a2,a3,a4,a5,a6,a7]:=by
     match cs,hcs with
     |[a0,a1,a2,a3,a4,a5,a6,a7],_=>exact⟨_,_,_,_,_,_,_,_,rfl⟩
    refine bF aAZ λwa ra ma za=>bF (aA0.mod ma (by omega)) λwb rb mb zb=>⟨(show Row wa w.heap.size 66 ⟨aHQ⟩from ra).mod mb (by omega),rb,?_⟩;exact Mod.trans (Mod.trans (s9.trans (jd w9)) ma (λ_ h=>h) (λi hi e=>by omega)) mb (λ_ h=>h) (λi hi e=>by omega)
   .rintro _ u w' ⟨rfl,hu,h1,h2,h3⟩
    exact hK w' h1 h2 h3 u hu
  have CZ:DU ts=(uM (dB 30).1 ts).and λx=>if x.2=[]then .ok x.1 else .bad 100:=rfl;rw[CZ];clear CZ;cases hr:uM (dB 30).1 ts with
  |bad k=>rw[hr]at C2;refine .inr ⟨_,C2,panics k w8 aHQ rfl agY er8 zi _ λw' h1 h2 h3 u hu=>?_⟩;exact⟨⟨_,rfl⟩,hu,K9 h1 h2 (DQ _ _) ⟨_,rfl,DQ _ _,h3⟩⟩
  |ok y=>
  rw[hr]at C2;obtain⟨cs,rfl,hnd,h8⟩:=C2;obtain⟨pw,cw,pa,ca,pr,cr,po,co,pk,ck,rfl,_⟩:=hnd.outs;rw[Rs.ae3];refine .inl ⟨_,_,_,_,_,_,_,_,_,_,_,_,_,_,_,_,_,_,rfl,bF agY λw9 r9 m9 z9=>?_⟩;have er9:=er8.mod m9 (by omega);have I7:Still w w9:=Mod.trans zi m9 (λ_ h=>h) (λi hi e=>by omega);have aA1:=(hnd.mod m9 λk hk (e:k=w.heap.size)=>by have hk1:w7.heap.size<=k:=hk.1;omega);have A3:=m9.size;obtain⟨a9,c9,azt,_⟩:=h8;have azu:=azt.mod m9 (by omega);have r9:Row w9 w.heap.size 66 ⟨jg y.1 (.slice pw y.1.ws.length cw) (.slice pa y.1.aHv.length ca) (.slice pr y.1.rs.length cr) (.slice po y.1.os.length co) (.slice pk y.1.ks.length ck)⟩:=r9;refine⟨a9,y.2.length,c9,azu.ai rfl,(aa2 _).mono ?_⟩;rintro _ aP ⟨rfl,rfl⟩
  by_cases hy:y.2=[]
  .rw[aN hy]
   rw[aN (by rw[hy];decide)];refine .inl ⟨rfl,_,_,_,_,_,_,_,_,_,_,_,_,_,_,_,_,_,_,r9.ai rfl,r9.ai rfl,r9.ai rfl,r9.ai rfl,r9.ai rfl,r9.ai rfl,r9.ai rfl,r9.ai rfl,bF r9 λbg gJ m11 wM=>bF (er9.mod m11 (by omega)) λbI aA2 m12 z12=>(arq _ _ _).mono ?_⟩;rintro _ u aHa ⟨rfl,rfl,rfl⟩;have gJ:Row bg w.heap.size 66 ⟨jg y.1 (.slice pw y.1.ws.length cw) (.slice pa y.1.aHv.length ca) (.slice pr y.1.rs.length cr) (.slice po y.1.os.length co) (.slice pk y.1.ks.length ck)⟩:=gJ;have agZ:=((aA1.mod m11 λk hk (e:k=w.heap.size)=>by have hk1:w7.heap.size<=k:=hk.1;omega).mod m12 λk hk (e:k=w1.heap.size)=>by have hk1:w7.heap.size<=k:=hk.1;omega).mono (G:=λk=>w.heap.size<=k/\k<aHa.heap.size) λk hk=>by have hk1:w7.heap.size<=k:=hk.1;have hk2:k<w8.heap.size:=hk.2;exact⟨by omega,by omega⟩
   have fX:Still w aHa:=Mod.trans (Mod.trans I7 m11 (λ_ h=>h) (λi hi e=>by omega)) m12 (λ_ h=>h) (λi hi e=>by omega);exact⟨⟨_,rfl⟩,rfl,K9 (gJ.mod m12 (by omega)) aA2 agZ ⟨_,rfl,agZ,fX⟩⟩
  .rw[aH hy]
   have hd:decide (((y.2.length:Nat):Int)=(0:Int))=false:=fY λe=>hy (mC (by omega));rw[hd,aH (by decide)];refine .inr ⟨_,rfl,panics 100 aP _ rfl r9 er9 I7 _ λw' h1 h2 h3 u hu=>?_⟩;exact⟨⟨_,rfl⟩,hu,K9 h1 h2 (DQ _ _) ⟨_,rfl,DQ _ _,h3⟩⟩
end Go.Proofs.YtihaaoehhgmphaaGreatDoor.L
namespace Go.Proofs.YtihaaoehhgmphaaGreatDoor
open IntKind Go.RowKit Vc
set_option maxRecDepth 100000
variable{w w0:World}
def WT(a:Nat)(fuel:Int)(mp:Option Addr)(mn mc:Nat):List Value:=
 [.pointer (some ⟨a,0,none⟩),.int .i64 0,.bool false,.int .i64 0,.string (S []),.string (S []),.slice none 0 0,.string (S []),.slice none 0 0,.slice mp mn mc,.int .i64 0,.int .i64 0,.int .i64 0,.int .i64 0,.int .i64 fuel,.pointer none,.slice none 0 0]
def Made(w:World)(a:Nat)(bh:ag)(fuel:Int)(ex:Option Addr)(w':World):Prop:=∃hb sb pb fm,ex=some ⟨hb,0,none⟩/\w.heap.size<=hb/\w.heap.size<=sb/\w.heap.size<=fm/\Row w' hb fV ⟨aId sb pb none 0 0 0 fm bh [] 0 0 0⟩/\Row w' sb lW ⟨WT a fuel none 0 0⟩/\ga w' pb a/\dH w' fm []/\Still w w'
def uF(T:Tree)(bh:ag)(fuel:Nat):Sh:=⟨T,[],0,bh,[],0,0,0,fuel,0,[],1000⟩
def H8{C:World->Prop}(h:∀w1,dH w1 w.heap.size []->Still w w1->w1.heap.size=w.heap.size+1->C w1):cP (w.alloc (.map #[] 0)) C:=h _ (dH.new w) ((Mod.refl _ _).alloc _) (World.size_alloc ..)
set_option maxHeartbeats 1000000 in
def ac7(bP:aHx w0)(h0:Still w0 w){a g:Nat}{T:Tree}(hst:cv w w0.heap.size a g none 0 T)(hT:gu T)(script bh:ag){fuel:Nat}(hf:fuel<=1000000){n:L.Nd}(hp:L.pK script=(n,0)){s':Sh}(hex:mY n (uF T bh fuel) s'):
  an Kz #[.pointer (some ⟨a,0,none⟩),.string (S script),.agg #[.string (S []),.int .i64 0,.slice none 0 0,.slice none 0 0,.string (S bh),.int .i64 (fuel:Int),.bool false,.slice none 0 0]] w (λe w'=>(∃(p1:Option Addr) (n1 c1:Nat) (cw:ag) (p2:Option Addr) (n2 c2:Nat) (p3:Option Addr) (n3 c3:Nat) (i1 i2 i3 i4:Int),e=.returned (.agg #[.int .i64 s'.st,.string (S s'.out),.string (S s'.err),.slice p1 n1 c1,.string (S cw),.slice p2 n2 c2,.slice p3 n3 c3,.int .i64 i1,.int .i64 i2,.int .i64 i3,.int .i64 i4]))/\cv w' w0.heap.size a g none 0 s'.T/\gu s'.T/\Still w0 w'/\w.heap.size<=w'.heap.size):=by
 have hz0:=h0.size;apply am2;refine aO λw1 r1 s1 z1=>aO λw2 r2 s2 z2=>?_;have q1:=r1.still s2;have dD:=s1.trans s2;have sD:Still w2 w2.drew:=(Still.refl _).cG;have pZ:=q1.still sD;have M_:=dD.trans sD;have ew:(if(0:Int)>(fuel:Int)then(0:Int)else(fuel:Int))=(fuel:Int):=aH (by omega);have eb:bits .and .i64 0 7=0:=by decide
 refine⟨Made w2 a bh fuel,⟨λwq=>Row wq w.heap.size 57 ⟨[.string (S []),.int .i64 0,.slice none 0 0,.slice none 0 0,.string (S bh),.int .i64 (fuel:Int),.bool false,.slice none 0 0]⟩,pZ,_,λwq hq=>hq.ai rfl,_,λwq hq=>hq.ai rfl,_,λwq hq=>hq.ai rfl,_,λwq hq=>hq.ai rfl,_,λwq hq=>hq.ai rfl,_,λwq hq=>hq.ai rfl,_,λwq hq=>hq.ai rfl,?_,?_,?_⟩,?_⟩
 .rw[ew,eb]
  refine aO λw3 r3 s3 z3=>⟨pZ.still s3,(aKe rfl).mono ?_,H8 λw7 r7 s7 z7=>⟨(pZ.still s3).still s7,(aKe rfl).mono ?_⟩⟩
  .rintro _ w4 ⟨rfl,p4,s4,z4⟩
   refine .inl ⟨_,rfl,(pZ.still s3).still s4,H8 λw5 r5 s5 z5=>⟨((pZ.still s3).still s4).still s5,aO λw6 r6 s6 z6=>?_⟩⟩;have hz:=((s3.trans s4).trans s5).size;have A6:=(s3.trans s4).size;exact⟨_,_,_,_,rfl,hz,aR _,A6,r6,((r3.still s4).still s5).still s6,(p4.still s5).still s6,r5.still s6,((((sD.trans s3).trans s4).trans s5).trans s6)⟩
  .rintro _ w8 ⟨rfl,p8,s8,z8⟩
   refine .inl ⟨_,rfl,((pZ.still s3).still s7).still s8,aO λw9 r9 s9 z9=>?_⟩;exact⟨_,_,_,_,rfl,((s3.trans s7).trans s8).size,aR _,s3.size,r9,((r3.still s7).still s8).still s9,p8.still s9,(r7.still s8).still s9,(((sD.trans s3).trans s7).trans s8).trans s9⟩
 .rw[ew,eb]
  refine(aKe rfl).mono ?_;rintro _ aP ⟨rfl,wL,iq,aIt⟩;refine .inl ⟨_,rfl,pZ.still iq,aO λbg gJ ou wM=>⟨(pZ.still iq).still ou,H8 λbI mX fX z12=>⟨((pZ.still iq).still ou).still fX,aO λaHa qH aHK aJi=>?_⟩⟩,H8 λbR rH ji N8=>⟨(pZ.still iq).still ji,aO λct A8 vt I1=>⟨((pZ.still iq).still ji).still vt,aO λbX r16 mw Oh=>?_⟩⟩⟩
  .exact⟨_,_,_,_,rfl,((iq.trans ou).trans fX).size,iq.size,(iq.trans ou).size,qH,(gJ.still fX).still aHK,((wL.still ou).still fX).still aHK,mX.still aHK,(((sD.trans iq).trans ou).trans fX).trans aHK⟩
  .exact⟨_,_,_,_,rfl,((iq.trans ji).trans vt).size,(iq.trans ji).size,iq.size,r16,A8.still mw,((wL.still ji).still vt).still mw,(rH.still vt).still mw,(((sD.trans iq).trans ji).trans vt).trans mw⟩
 .rw[ew,eb]
  refine H8 λcF zm aIe z17=>⟨pZ.still aIe,aO λdI I8 lp z18=>⟨(pZ.still aIe).still lp,(aKe rfl).mono ?_⟩,(aKe rfl).mono ?_⟩
  .rintro _ aHr ⟨rfl,p19,j7,z19⟩
   refine .inl ⟨_,rfl,((pZ.still aIe).still lp).still j7,aO λgR tT mu z20=>?_⟩;exact⟨_,_,_,_,rfl,((aIe.trans lp).trans j7).size,aIe.size,aR _,tT,(I8.still j7).still mu,p19.still mu,((zm.still lp).still j7).still mu,(((sD.trans aIe).trans lp).trans j7).trans mu⟩
  .rintro _ fN ⟨rfl,p21,qI,z21⟩
   refine .inl ⟨_,rfl,(pZ.still aIe).still qI,aO λju CW zq z22=>⟨((pZ.still aIe).still qI).still zq,aO λtM aKB zk z23=>?_⟩⟩;exact⟨_,_,_,_,rfl,((aIe.trans qI).trans zq).size,(aIe.trans qI).size,aR _,aKB,CW.still zk,(p21.still zq).still zk,((zm.still qI).still zq).still zk,(((sD.trans aIe).trans qI).trans zq).trans zk⟩
 rintro _ _ pS ⟨hb,sb,pb,fm,rfl,l1,l2,l3,rh,rs,pp,ff,aHU⟩;have aA3:Still w pS:=dD.trans aHU;have I_:=q1.still aHU;have gU:=dD.size;refine⟨_,_,_,I_.ai rfl,_,_,_,I_.ai rfl,dL (g:=hb) (o:=3) rh (by simp[aId]) (by simp[Value.oneCell']) λpT Ja aKu z25=>?_⟩
 replace Ja:Row pT hb fV ⟨aId sb pb none 0 0 0 fm bh [] 0 0 0⟩:=Ja
 have ne1:sb≠hb:=rs.ne rh (by decide);have ne2:pb≠hb:=pp.ne rh (by decide);have aA4:=rs.mod aKu ne1;have aA5:=pp.mod aKu ne2;have aA6:=ff.mod aKu λe=>ff.c7 rh e;have WU:=I_.mod aKu (I_.ne rh (by decide));have aA7:Still w pT:=aA3.box (by omega) aKu;have sE:Still pT pT.drew:=(Still.refl _).cG;refine⟨λwq=>Row wq hb fV ⟨aId sb pb none 0 0 0 fm bh [] 0 0 0⟩/\Row wq w.heap.size 57 ⟨[.string (S []),.int .i64 0,.slice none 0 0,.slice none 0 0,.string (S bh),.int .i64 (fuel:Int),.bool false,.slice none 0 0]⟩,⟨Ja.still sE,WU.still sE⟩,_,λwq hq=>hq.1.ai rfl,_,_,_,λwq hq=>hq.2.ai rfl,?_⟩;refine(show an OO #[.slice none 0 0] pT.drew (λe w'=>e=.returned (.slice none 0 0)/\w'=pT.drew)from ajg _ _ _ _ _ (ax (λ_=>⟨rfl,rfl⟩) (λh=>by cases h))).mono ?_;rintro _ _ ⟨rfl,rfl⟩;refine .inl ⟨_,_,_,rfl,⟨Ja.still sE,WU.still sE⟩,dL (g:=sb) (o:=9) (aA4.still sE) (by simp[WT]) (by simp[Value.oneCell']) λrz E3 E4 z27=>?_⟩
 replace E3:Row rz sb lW ⟨WT a fuel none 0 0⟩:=E3
 have ag0:=(Ja.still sE).mod E4 ne1.symm;have aA8:=(aA5.still sE).mod E4 (pp.ne rs (by decide));have aA9:=(aA6.still sE).mod E4 λe=>ff.c7 rs e;have q27:=(WU.still sE).mod E4 (I_.ne rs (by decide));have Vt:Still w rz:=(aA7.trans sE).box (by omega) E4;refine(L.aba script (by rw[hp])).mono ?_;rintro _ pU ⟨cs,rfl,hnd,s28⟩;rw[hp]at hnd⊢;have aA_:=hnd;obtain⟨pw,cw,pa,ca,pr,cr,po,co,pk,ck,rfl,_⟩:=hnd.outs;refine .inl ⟨_,_,_,_,_,_,_,_,_,_,_,_,_,_,_,_,_,_,_,rfl,aO λEM r29 s29 z29=>bF (g:=pU.heap.size) (o:=0) r29 λnB Bb m30 z30=>?_⟩;have UB:Still pU nB:=s29.box (aR _) m30;have yw:=s28.trans UB;have Vu:=Vt.trans yw;have hK:bx nB w0 ⟨a,g,hb,sb,pb,fm⟩ (uF T bh fuel):=by
  have aBa:=E3.still yw;refine⟨⟨hT,aA8.still yw,aA9.still yw,⟨none,0,ag0.still yw,A.cR.nil _⟩,⟨⟨none,0,0,none,0,0,0,none,.slice none 0 0⟩,aHt.fresh aBa rfl rfl,⟨[],aS.nil _ _ _ _⟩,by simp only[uF];refine⟨by decide,by decide,hf⟩⟩,⟨by show w0.heap.size<=hb;omega,by show w0.heap.size<=sb;omega⟩,?_⟩,hst.still Vu⟩;have:=hst.now.lt;show g≠fm
  omega
 have aBb:∀k,Ft ⟨a,g,hb,sb,pb,fm⟩ nB k->k<rz.heap.size:=λk hk=>by
  rcases hk with e|e|e|e|⟨v,hv,e⟩|⟨v,hv,e⟩
  .rw[e];exact ag0.lt
  .have h1:=hst.top.lt;have h2:=Vt.size;rw[e];show a<_;omega
  .have h1:=hst.now.lt;have h2:=Vt.size;rw[e];show g<_;omega
  .rw[e];exact E3.lt
  .have:nB.cell? ⟨sb,8,none⟩=some (.slice none 0 0):=(E3.still yw).ai rfl
   rw[show(⟨a,g,hb,sb,pb,fm⟩:Kx).sb=sb from rfl,this]at hv;obtain rfl:=bO hv;cases e
  .have:nB.cell? ⟨sb,16,none⟩=some (.slice none 0 0):=(E3.still yw).ai rfl
   rw[show(⟨a,g,hb,sb,pb,fm⟩:Kx).sb=sb from rfl,this]at hv;obtain rfl:=bO hv;cases e
 have hD:Kept (λk=>rz.heap.size<=k/\k<pU.heap.size) (Ft ⟨a,g,hb,sb,pb,fm⟩ nB) nB:=λk hk=>⟨by have:=UB.size;omega,λhf=>by have:=aBb k hf;omega⟩;have ag1:=h0.trans Vu;have ap0:=λ{k:Nat} {ty:TypeId} {cs:Array Value} (hr:Row nB k ty cs) (a b c d e)=>iX hK hr a b c d e;have q30:=q27.still yw;have d30:Row nB w1.heap.size 39 ⟨[.int .i64 0,.string (S []),.string (S []),.slice none 0 0,.string (S []),.slice none 0 0,.slice none 0 0,.int .i64 0,.int .i64 0,.int .i64 0,.int .i64 0]⟩:=by have e1:=(r2.still aHU).mod aKu (by omega);exact(((e1.still sE).mod E4 (by omega)).still yw)
 refine⟨λwC=>bx wC w0 ⟨a,g,hb,sb,pb,fm⟩ s'/\cj (Ft ⟨a,g,hb,sb,pb,fm⟩ nB) nB (Ft ⟨a,g,hb,sb,pb,fm⟩ wC) wC,ax (λ_=>?_) (λhb=>absurd rfl (aZ hb)),?_⟩
 .refine⟨_,_,_,_,_,_,_,_,_,_,_,_,_,_,_,_,_,_,Bb.ai rfl,Bb.ai rfl,Bb.ai rfl,Bb.ai rfl,Bb.ai rfl,Bb.ai rfl,Bb.ai rfl,Bb.ai rfl,?_⟩
  refine(hex nB w0 ⟨a,g,hb,sb,pb,fm⟩ _ _ bP ag1 hK (aA_.still UB) hD).mono ?_;rintro _ wC ⟨rfl,WR,g31⟩;exact .inl ⟨rfl,WR,g31⟩
 rintro _ gT ⟨l5,WV⟩;obtain⟨x,hx⟩:=l5.gX;have Ni:=d30.mod WV.mod (ap0 d30 (by decide) (by decide) (by decide) (by decide) (by decide));refine⟨_,l5.cell λ_ _=>rfl,_,_,_,_,_,_,_,_,_,_,_,_,_,_,_,_,_,hx.row.ai rfl,hx.row.ai rfl,hx.row.ai rfl,hx.row.ai rfl,hx.row.ai rfl,hx.row.ai rfl,hx.row.ai rfl,hx.row.ai rfl,hx.row.ai rfl,hx.row.ai rfl,hx.row.ai rfl,?_⟩;obtain⟨vp,vc,ag2,_⟩:=l5.fW;have aBc:Still w0 gT:=td hK ag1 WV;refine aO λw36 r36 aJU z36=>bF (g:=gT.heap.size) (o:=0) r36 λEJ r37 m37 z37=>?_;have azv:Still gT EJ:=aJU.box (aR _) m37;have sF:Still EJ EJ.drew:=(Still.refl _).cG;have Vv:=azv.trans sF;have Vw:=ag2.still Vv;have EC:=hx.gW.still Vv;refine⟨λwq=>Row wq hb fV ⟨gV ⟨a,g,hb,sb,pb,fm⟩ vp vc s'⟩,Vw,_,λwq hq=>hq.ai rfl,_,λwq hq=>hq.ai rfl,_,λwq hq=>hq.ai rfl,(aKa EC (by have:=hx.cB.2.1;omega)).mono ?_⟩;rintro _ NI ⟨rfl,Oi⟩;have ag3:=Vw.mod Oi λe=>EC.own.c7 Vw (by decide) e;have aBd:=EC.row.mod Oi λe=>EC.own.c7 EC.row (by decide) e;have r38:=(r37.still sF).mod Oi λe=>EC.own.c7 (r37.still sF) (by decide) e;refine .inl ⟨_,rfl,ag3,dL (g:=gT.heap.size) (o:=0) r38 (by simp[fF]) (by simp[Value.oneCell']) λIq r39 WW z39=>?_⟩;have nb:hb≠gT.heap.size:=by have h1:=ag2.lt;have h2:(⟨a,g,hb,sb,pb,fm⟩:Kx).hb=hb:=rfl;rw[h2]at h1;omega
 have Oj:sb≠gT.heap.size:=by have h1:=hx.row.lt;have h2:(⟨a,g,hb,sb,pb,fm⟩:Kx).sb=sb:=rfl;rw[h2]at h1;omega
 have sG:Still Iq Iq.drew:=(Still.refl _).cG;have Vx:=(ag3.mod WW nb).still sG;have Vy:=(aBd.mod WW Oj).still sG;refine⟨λwq=>Row wq hb fV ⟨gV ⟨a,g,hb,sb,pb,fm⟩ vp vc s'⟩/\Row wq sb lW ⟨aIc ⟨a,g,hb,sb,pb,fm⟩ x s'⟩,⟨Vx,Vy⟩,_,_,_,λwq hq=>hq.1.ai rfl,_,λwq hq=>hq.1.ai rfl,_,λwq hq=>hq.1.ai rfl,_,λwq hq=>hq.2.ai rfl,?_⟩;refine dL (g:=gT.heap.size) (o:=3) (r39.still sG) (by simp[fF]) (by simp[Value.oneCell']) λVS r40 Jb z40=>⟨⟨Vx.mod Jb nb,Vy.mod Jb Oj⟩,?_⟩;refine dL (g:=gT.heap.size) (o:=4) r40 (by simp[fF]) (by simp[Value.oneCell']) λVT r41 WX z41=>⟨⟨(Vx.mod Jb nb).mod WX nb,(Vy.mod Jb Oj).mod WX Oj⟩,?_⟩;refine dL (g:=gT.heap.size) (o:=9) r41 (by simp[fF]) (by simp[Value.oneCell']) λIr vu m42 z42=>?_;refine⟨_,_,_,_,_,_,_,_,_,_,_,_,_,_,_,_,_,vu.ai rfl,vu.ai rfl,vu.ai rfl,vu.ai rfl,vu.ai rfl,vu.ai rfl,vu.ai rfl,vu.ai rfl,vu.ai rfl,vu.ai rfl,vu.ai rfl,?_⟩;have azw:Mod (λk=>k=gT.heap.size) NI Ir:=Mod.trans (Mod.trans (Mod.trans (Mod.trans WW sG (λ_ h=>h) (λ_ _ h=>h.elim)) Jb (λ_ h=>h) (λ_ _ h=>h)) WX (λ_ h=>h) (λ_ _ h=>h)) m42 (λ_ h=>h) (λ_ _ h=>h);have afQ:Mod (λk=>x.buf.ownBlock=some k) gT Ir:=Mod.trans (Mod.trans Vv Oi (λ_ h=>h.elim) (λ_ _ h=>h)) azw (λ_ h=>h) (λi hi e=>by omega);have aBe:=Ni.mod afQ λe=>hx.gW.own.c7 Ni (by decide) e;refine bF (g:=w1.heap.size) (o:=0) aBe λNJ vv m43 z43=>?_;have UC:Mod (λk=>x.buf.ownBlock=some k\/k=w1.heap.size) gT NJ:=Mod.trans afQ m43 (λ_ h=>.inl h) (λ_ _ h=>.inr h);refine⟨_,_,_,_,_,_,_,_,_,_,_,_,_,_,_,_,_,vv.ai rfl,vv.ai rfl,vv.ai rfl,vv.ai rfl,vv.ai rfl,vv.ai rfl,vv.ai rfl,vv.ai rfl,vv.ai rfl,vv.ai rfl,vv.ai rfl,?_⟩;have aFO:=WV.mod.size;have aFP:=Vu.size;have hz1:=s1.size;refine⟨⟨_,_,_,_,_,_,_,_,_,_,_,_,_,_,rfl⟩,l5.aHh.mod UC λk hk e=>?_,l5.mU,Mod.trans aBc UC (λ_ h=>h) λi hi e=>?_,by have:=UC.size;omega⟩
 .rcases e with e|e
  .rcases hk with rfl|rfl|⟨t,ht,_⟩
   .exact hx.gW.own.c7 l5.aHh.top (by decide) e
   .obtain⟨cur,hr⟩:=hx.gW.own.typed e
    exact l5.aHh.now.c7 hr rfl
   .cases ht
  .rcases hk with rfl|rfl|⟨t,ht,_⟩
   .exact(l5.aHh.top.ne Ni (by decide)) e
   .exact(l5.aHh.now.c7 Ni) e
   .cases ht
 .rcases e with e|e
  .have:=(hx.gW.own.lt i e).1;omega
  .omega
def jt(w:World)(p:Option Addr)(c:Nat)(l:List ag):Prop:=l.length<=c/\(l≠[]->∃g o,p=some ⟨g,o,none⟩/\g<w.heap.size/\∀j u,(strs l)[j]?=some u->w.cell? ⟨g,o+j,none⟩=some u)
def jt.still{p:Option Addr}{c:Nat}{l:List ag}{w':World}(h:jt w p c l)(hm:Still w w'):jt w' p c l:=⟨h.1,λhl=>by obtain⟨g,o,h1,h2,h3⟩:=h.2 hl;exact⟨g,o,h1,oB h2 hm.size,λj u hu=>hm.cell (h3 j u hu)⟩⟩
def jt.of{B:Nat}{p:Option Addr}{c:Nat}{l:List ag}(h:aS w B bJ 1 (.slice p l.length c) l.length (strs l)):jt w p c l:=⟨aS.afE h,λhl=>by obtain⟨g,cap,cur,hv,_⟩:=h.row (nj.2 hl);injection hv with e1 e2 e3;subst e1;exact⟨g,0,rfl,(h.lt g rfl).2,λj u hu=>by rw[cL];exact h.cells rfl j u hu⟩⟩
def jt.tail{x:ag}{p:Option Addr}{c:Nat}{l:List ag}(h:jt w p c (x::l)):jt w (if c=Int.toNat 1 then p else Option.map (·.add (Int.toNat 1*1)) p) (c-Int.toNat 1) l:=by have hc:=h.1;simp only[a_]at hc;refine⟨by show l.length<=c-1;omega,λhl=>?_⟩;have:=nj.2 hl;obtain⟨g,o,rfl,h2,h3⟩:=h.2 (by simp);rw[aH (by show¬c=1;omega)];refine⟨g,o+1,rfl,h2,λj u hu=>?_⟩;rw[show o+1+j=o+(j+1) by omega];exact h3 (j+1) u (by simpa[strs]using hu)
def jt.get{p:Option Addr}{c:Nat}{l:List ag}(h:jt w p c l){j:Nat}(hj:j<l.length):∃a,p=some a/\w.cell? (a.add (j*1))=some (.string (S l[j])):=by obtain⟨g,o,rfl,h2,h3⟩:=h.2 (nj.1 (by omega));exact⟨_,rfl,by rw[aHA,bM];exact h3 j _ (acU hj)⟩
def ars{p:Option Addr}{c:Nat}{l:List ag}(h:jt w p c l)(sep:ag)(hl:l.length<=1000000)(hj:(Lib.join l sep).length<=140737488355328):
  an Dv #[.slice p l.length c,.string (S sep)] w (λe w'=>e=.returned (.string (S (Lib.join l sep)))/\Still w w'):=by
 by_cases h0:l=[]
 .subst h0
  refine(Tryz.strings_Join_none p c (S sep) w).mono ?_;rintro _ w' ⟨rfl,rfl⟩;exact⟨rfl,Still.refl _⟩
 .obtain⟨g,o,rfl,h2,h3⟩:=h.2 h0
  have hm:(l.map S).map (·.data.toList)=l:=by rw[Dw];exact List.map_id' l
  have hJ:=Tryz.strings_Join g o c (l.map S) (S sep) w (λj x hx=>by
   rw[vF]at hx;cases hj:l[j]? with
   |none=>rw[hj]at hx;cases hx
   |some y=>rw[hj]at hx;obtain rfl:=bO hx;exact h3 j _ (by simp[strs,hj])) h2 (by rw[ke];omega) (by rw[ke];exact h.1) (by rw[hm];exact hj)
  rw[ke,hm]at hJ;refine hJ.mono ?_;rintro _ w' ⟨rfl,hb⟩;exact⟨rfl,Mod.SC hb⟩
def acf(s:ag):an Kt #[.string (S s)] w (λe w'=>e=.returned (.tuple #[.agg #[.int .i64 0,.string (S s),.string (S [])],.bool true])/\Still w w'):=by apply amI;refine aO λw1 r1 s1 z1=>bF (g:=w.heap.size) (o:=0) r1 λw2 r2 m2 z2=>?_;exact⟨_,_,_,r2.ai rfl,r2.ai rfl,r2.ai rfl,rfl,s1.box (aR _) m2⟩
def MD(fn:FuncId)(args:List ag)(bh:ag)(st:Int)(out:ag):Prop:=∀(w:World) (p:Option Addr) (c:Nat),aHx w->jt w p c args->an fn #[.slice p args.length c,.string (S bh)] w (λe w'=>e=.returned (.tuple #[.agg #[.int .i64 st,.string (S out),.string (S [])],.bool true])/\Still w w')
def Ll{args:List ag}(bh:ag)(hl:args.length<=100000)(hj:(Lib.join args [32]).length<=1000000):MD aJ6 args bh 0 (Lib.join args [32]++[10]):=by intro w p c he h;apply amF;refine aO λw1 r1 s1 z1=>(ars (h.still s1) [32] (by omega) (by omega)).mono ?_;rintro _ w2 ⟨rfl,s2⟩;refine .inl ⟨_,rfl,by simp;omega,(acf _).mono ?_⟩;rintro _ w3 ⟨rfl,s3⟩;have r3:=(r1.still s2).still s3;refine .inl ⟨_,_,_,_,rfl,bF (g:=w.heap.size) (o:=0) r3 λw4 r4 m4 z4=>?_⟩;exact⟨_,_,_,r4.ai rfl,r4.ai rfl,r4.ai rfl,rfl,((s1.trans s2).trans s3).box (aR _) m4⟩
def avA{l:List ag}{x:ag}(h:x∈l):x.length<=dF l:=by
 induction l with
 |nil=>cases h
 |cons a r ih=>
  simp only[dF,gi,rP]at ih⊢;rcases gE.1 h with rfl|h
  .omega
  .have:=ih h;omega
def iO(s:ag):List ag:=if s=[]then[]else aII (Lib.trimSuffix s [10]) [10]
def Rh(s t:ag):(Lib.trimSuffix s t).length<=s.length:=by
 unfold Lib.trimSuffix;split
 .simp
 .exact aR _
def art(s:ag):(iO s).length<=s.length+1:=by
 unfold iO;split
 .simp
 .have:=(R4 (Lib.trimSuffix s [10]) [10] (by decide)).2
  have:=Rh s [10];omega
def aKc(he:aHx w){s:ag}(hs:s.length<=900000):an QX #[.string (S s)] w (λe w'=>∃p c,e=.returned (.slice p (iO s).length c)/\aS w' w.heap.size bJ 1 (.slice p (iO s).length c) (iO s).length (strs (iO s))/\Still w w'):=by
 apply amr;refine ax (λh=>?_) (λh=>?_)
 .have e:iO s=[]:=aN (aQ h)
  rw[e];exact⟨none,0,rfl,aS.nil _ _ _ _,Still.refl _⟩
 .have e:iO s=aII (Lib.trimSuffix s [10]) [10]:=aH (aZ h)
  refine(Tryz.strings_TrimSuffix (S s) (S [10]) w (by show s.length<=_;omega)).mono ?_;rintro _ w1 ⟨rfl,rfl⟩;have hl:=Rh s [10];refine .inl ⟨Lib.trimSuffix s [10],rfl,(K4 he (by omega) (by decide)).mono ?_⟩;rintro _ w2 ⟨p,c,rfl,ho,s2⟩;rw[e];exact .inl ⟨_,_,_,rfl,p,c,rfl,ho,s2⟩
def aJp(l:List ag):ag:=l.flatMap λx=>x++[10]
def acg(l:List ag):(aJp l).length=dF l:=by
 induction l with
 |nil=>rfl
 |cons a r ih=>simp only[aJp,aIj,aHb,a_,cq,dF,gi,rP]at ih⊢;omega
def aru{p:Option Addr}{c:Nat}{l:List ag}(h:jt w p c l)(hl:dF l<=10000000):an Ki #[.slice p l.length c] w (λe w'=>e=.returned (.string (S (aJp l)))/\Still w w'):=by
 have hlen:=G1 l;apply al5;refine aO λw1 r1 s1 z1=>?_;refine⟨λx w2=>∃(k:Nat) (q:Option Addr) (v:Value),x=(k:Int)/\k<=l.length/\aHt w2 86 w.heap.size 0 (w.heap.size+1) [.pointer q,v] v (aJp (l.take k))/\Still w w2,λx _=>(l.length-x).toNat,⟨0,none,.slice none 0 0,rfl,dU _,aHt.fresh r1 rfl rfl,s1⟩,?_⟩;rintro x _ w2 ⟨k,q,v,rfl,hk,hb,s2⟩;have l1:∀a b,nV 86 (([a,b]:List Value).length) 0:=λ_ _=>Gx;have hB:=hb.row.lt;have htk:∀k,dF (l.take k)<=dF l:=λk=>by
  conv=>rhs;rw[<-aIh k l,zQ]
  omega
 refine ax (λhx=>?_) (λhx=>?_)
 .have hx:k<l.length:=by have:=aQ hx;omega
  obtain⟨a,rfl,hcell⟩:=(h.still s2).get hx;have e1:aJp (l.take (k+1))=aJp (l.take k)++(l[k]++[10]):=by rw[aJp,aJp,Bj hx,PK];rw[List.flatMap_singleton]
  have hlk:l[k].length<=dF l:=avA (kL hx);have hjk:=acg (l.take k);have aFQ:=htk k;refine⟨by omega,by omega,_,by rw[bW];exact hcell,by simp;omega,?_⟩;refine(Bp hb (l1 _ _) (l[k]++[10]) hB (by simp;omega)).mono ?_;rintro _ w3 ⟨rfl,v',hb',m3⟩;refine .inl ⟨_,_,rfl,rfl,?_⟩;rw[wrap_i64 (by omega) (by omega)];refine⟨⟨k+1,_,v',by omega,by omega,by rw[e1];exact hb',Mod.trans s2 m3 (λ_ h=>h) λi hi e=>?_⟩,by dsimp only;omega⟩;rcases e with rfl|e
  .omega
  .have:=(hb.own.lt i e).1;omega
 .have hx:k=l.length:=by have:=aZ hx;omega
  subst hx;rw[aH0]at hb;refine(aKa hb (by rw[acg];omega)).mono ?_;rintro _ w3 ⟨rfl,m3⟩;refine .inl ⟨_,rfl,rfl,Mod.trans s2 m3 (λ_ h=>h) λi hi e=>by have:=(hb.own.lt i e).1;omega⟩
def ao6{B:Nat}{p:Option Addr}{c:Nat}{l:List ag}(h:aS w B bJ 1 (.slice p l.length c) l.length (strs l))(hl:dF l<=10000000):an Ki #[.slice p l.length c] w (λe w'=>e=.returned (.string (S (aJp l)))/\Still w w'):=aru (jt.of h) hl
def jt.drop{p:Option Addr}{c:Nat}{l:List ag}(h:jt w p c l){k:Nat}(hk:k<=l.length):jt w (if c=k then p else Option.map (·.add (k*1)) p) (c-k) (l.drop k):=by have hc:=h.1;refine⟨by rw[j_];omega,λhl=>?_⟩;have:=nj.2 hl;rw[j_]at this;obtain⟨g,o,rfl,h2,h3⟩:=h.2 (nj.1 (by omega));rw[aH (by omega)];refine⟨g,o+k,by simp[bM],h2,λj u hu=>?_⟩;rw[show o+k+j=o+(k+j) by omega];exact h3 (k+j) u (by simpa[strs,Dg]using hu)
def jt.take{p:Option Addr}{c:Nat}{l:List ag}(h:jt w p c l)(k:Nat):jt w p c (l.take k):=⟨by rw[eZ];have:=h.1;omega,λhl=>by
 obtain⟨g,o,e,h2,h3⟩:=h.2 (λe=>hl (by rw[e,List.take_nil]));refine⟨g,o,e,h2,λj u hu=>h3 j u ?_⟩;simp only[strs,vF,O_]at hu⊢;obtain⟨x,hx,rfl⟩:=hu;rw[aJ1]at hx;split at hx
 .exact⟨x,hx,rfl⟩
 .cases hx⟩
def an6:cY aL QL=true:=by kernel_rfl
def amT{p:Option Addr}{c:Nat}{l:List ag}{f:FuncId}(hf:cY aL f=true)(h:jt w p c l)(hl:l.length<=1000000)(hp:∀x∈l,∀w,an f #[.string (S x)] w λe w'=>e=.returned (.bool false)/\w'=w):
  an OL #[.slice p l.length c,.func (.func f) #[] #[]] w (λe w'=>e=.returned (.bool false)/\w'=w):=by
 apply ajc;refine(show an Fq #[.slice p l.length c,.func (.func f) #[] #[]] w (λe w'=>e=.returned (.int .i64 (-1))/\w'=w)from ?_).mono ?_
 .apply Xo
  refine⟨λi w1=>(∃k:Nat,i=(k:Int)/\k<=l.length)/\w1=w,λi _=>(l.length-i).toNat,⟨⟨0,rfl,dU _⟩,rfl⟩,?_⟩;rintro _ _ w1 ⟨⟨k,rfl,hk⟩,rfl⟩;refine ax (λhx=>?_) (λ_=>⟨rfl,rfl⟩);have hx:k<l.length:=by have:=aQ hx;omega
  obtain⟨a,rfl,hc⟩:=h.get hx;refine⟨by omega,by omega,_,by rw[bW];exact hc,aI1 (cap:=[]) (ax (λ_=>(hp _ (kL hx) w1).mono ?_) (λh=>by rw[hf]at h;cases h))⟩;rintro _ _ ⟨rfl,rfl⟩;refine .inl ⟨_,rfl,ax (λh=>by cases h) (λ_=>?_)⟩;rw[wrap_i64 (by omega) (by omega)];exact⟨⟨⟨k+1,by omega,by omega⟩,rfl⟩,by dsimp only;omega⟩
 .rintro _ _ ⟨rfl,rfl⟩
  exact .inl ⟨_,rfl,rfl,rfl⟩
def ZG{p:Option Addr}{c:Nat}{l:List ag}(h:jt w p c l)(hl:l.length<=1)(x:ag):an zw #[.slice p l.length c,.string (S x)] w (λe w'=>e=.returned (.bool (decide (x∈l)))/\w'=w):=by
 match l,hl,h with
 |[],_,h=>refine(Tryz.slices_Contains_string_empty p c (S x) w).mono ?_;rintro _ _ ⟨rfl,rfl⟩;exact⟨by simp,rfl⟩
 |[y],_,h=>
  obtain⟨g,o,rfl,h2,h3⟩:=h.2 (by simp);refine(Tryz.slices_Contains_string g o 1 c [S y] (S x) w (by simp) (by decide) (λj hj=>?_)).mono ?_
  .have:j=0:=by simpa using hj
   subst this;exact h3 0 _ rfl
  .rintro _ _ ⟨rfl,rfl⟩
   refine⟨?_,rfl⟩;have e:Lib.containsS [S y] (S x)=decide (x∈[y]):=by rw[aIV,Lib.containsS_iff,FD,jb,jb];exact⟨λh=>str_inj (fT Value.string h),λh=>by rw[h]⟩
   rw[vD (by simp),e]
def ao7{B:Nat}{p:Option Addr}{c:Nat}{l:List ag}(h:aS w B bJ 1 (.slice p l.length c) l.length (strs l))(hl:l.length<=1000000):
  an Xu #[.slice p l.length c] w λe w'=>e=.returned (.tuple #[])/\aS w' B bJ 1 (.slice p l.length c) l.length (strs l.reverse)/\Mod (λk=>(Value.slice p l.length c).ownBlock=some k) w w':=by
 by_cases h0:l.length=0
 .obtain rfl:=mC h0
  refine(Tryz.slices_Reverse_string_empty p c w).mono ?_;rintro _ _ ⟨rfl,rfl⟩;exact⟨rfl,by simpa using h,Mod.refl _ _⟩
 .obtain⟨g,cap,cur,hv,hb,⟨fz,hr,hf⟩,hc,hsz,ht⟩:=h.row (by omega)
  injection hv with e1 e2 e3;subst e1 e3;have hcap:c<=maxLen:=by
   rcases h.2 with⟨e,_⟩|⟨g',cap',cur',e,_,_,_,hm,_⟩
   .cases e
   .injection e with e1 e2 e3;omega
  rw[aHA]at ht hsz;have hH:Sort.Holds Go.Proofs.encStr w g 0 l.toArray:=by
   intro j hj;have hj':j<l.length:=by simpa using hj
   have h1:cur.toList[j]?=(strs l)[j]?:=by rw[<-ht,XE hj']
   refine⟨?_,?_⟩
   .have:=(show Row w g bJ cur from⟨fz,hr,hf⟩).cell j
    rw[cL,this,<-JA,h1];simp[strs,hj',Go.Proofs.encStr]
   .rw[cL]
    exact(show Row w g bJ cur from⟨fz,hr,hf⟩).frozen (by omega)
  refine(Tryz.slices_Reverse_string g 0 c l w hH (by omega)).mono ?_;rintro _ w' ⟨rfl,n,rfl⟩;rw[<-Go.Sort.grow_empty (Sort.putRow Go.Proofs.encStr (Sort.ahead w n) g 0 l.reverse.toArray)];have hg:=Go.grownBy_sorted (w:=w) (g:=g) (n:=n) (os:=#[]) l.reverse.toArray;refine⟨rfl,⟨by simp[KS],.inr ⟨g,c,_,rfl,hb,⟨fz,Go.heap_sorted _ hr,?_⟩,hc,hcap,by simp[Sort.putCells,hsz],?_⟩⟩,(Mod.refl _ _).grown hg λk hk=>.inl hk⟩
  .simpa[HH,Sort.putCells]using hf
  .have h2:=Go.take_putCells cur l.reverse (by rw[aLi];omega)
   rw[aLi]at h2;rw[aHA];exact h2
def arv(b:UInt8)(k:Nat)(s:ag):dF (Lib.splitK [b] 0 k s)<=s.length+1:=by
 induction k generalizing s with
 |zero=>simp[Lib.splitK,dF]
 |succ k ih=>
  rw[Lib.splitK];split
  .simp[dF]
  ·next h=>have hr:Lib.index s [b]≠-1:=λe=>h (by rw[e];rfl);have hg:=Lib.index_ge s [b];have hm:=Lib.index_room s [b] (by omega);have:=ih (s.drop ((Lib.index s [b]).toNat+1));simp only[dF,gi,rP,eZ,j_,a_,cq,cL,F1]at this hm⊢;omega
def arw(s:ag)(b:UInt8):dF (aII s [b])<=s.length+1:=arv b _ s
def avB{l l':List ag}(h:l.Perm l'):dF l=dF l':=by unfold dF;exact(h.map _).sum_nat
def arx(s:ag):dF (iO s)<=s.length+1:=by
 unfold iO;split
 .simp[dF]
 ·next h=>have:=arw (Lib.trimSuffix s [10]) 10;have:=Rh s [10];omega
def UD(args:List ag)(bh:ag):ag:=aJp (if args=[]then aHG (iO bh)else(aHG (iO bh)).reverse)
def atq{args:List ag}(ha:args=[]\/args=[[45,114]]){bh:ag}(hi:bh.length<=900000):MD F3 args bh 0 (UD args bh):=by
 intro w p c he h;have NS:args.length<=1:=by rcases ha with rfl|rfl<;>simp
 apply amG;refine aO λw1 r1 s1 z1=>?_;refine(amT an6 (h.still s1) (by omega) λx hx w=>?_).mono ?_
 .apply al6
  rcases ha with rfl|rfl
  .cases hx
  .obtain rfl:=jb.1 hx
   exact⟨rfl,rfl⟩
 rintro _ w1 ⟨rfl,rfl⟩;refine .inl ⟨_,rfl,ax (λh=>by cases h) (λ_=>?_)⟩;refine(aKc (he.still s1) hi).mono ?_;rintro _ w2 ⟨p2,c2,rfl,o2,s2⟩;have hln:=art bh;refine .inl ⟨_,_,_,rfl,(abU o2 (by omega)).mono ?_⟩;rintro _ w3 ⟨rfl,o3,m3⟩;have s3:Still w1 w3:=Mod.trans s2 m3 (λ_ h=>h) λi hi e=>by have:=(o2.lt i e).1;omega
 refine .inl ⟨rfl,λq qL qC w7=>q=p2/\qL=(iO bh).length/\qC=c2/\w7=w3,?_,?_⟩
 .refine(ZG ((h.still s1).still s3) NS [45,117]).mono ?_
  rintro _ w7 ⟨rfl,rfl⟩;refine .inl ⟨_,rfl,ax (λhx=>?_) (λ_=>⟨rfl,rfl,rfl,rfl⟩)⟩;have:=aQ hx;rcases ha with rfl|rfl<;>simp at this
 rintro q qL qC aJf w7 ⟨rfl,rfl,rfl,rfl⟩;refine⟨λaP=>aS aP w1.heap.size bJ 1 (.slice q (iO bh).length qC) (iO bh).length (strs (if args=[]then aHG (iO bh)else(aHG (iO bh)).reverse))/\Still w1 aP,?_,?_⟩
 .refine(ZG ((h.still s1).still s3) NS [45,114]).mono ?_
  rintro _ w7 ⟨rfl,rfl⟩;refine .inl ⟨_,rfl,ax (λhx=>?_) (λhx=>?_)⟩
  .have hx:=aQ hx
   have hne:args≠[]:=by rintro rfl;cases hx
   rw[aH hne];have o3':aS w7 w1.heap.size bJ 1 (.slice q (aHG (iO bh)).length qC) (aHG (iO bh)).length (strs (aHG (iO bh))):=by rw[vM];exact o3
   have hr:=ao7 o3' (by rw[vM];omega);rw[vM]at hr;refine hr.mono ?_;rintro _ w8 ⟨rfl,o8,m8⟩;exact .inl ⟨rfl,o8,Mod.trans s3 m8 (λ_ h=>h) λi hi e=>by have:=(o3.lt i e).1;omega⟩
  .have hx:=aZ hx
   have wG:args=[]:=by
    rcases ha with rfl|rfl;·rfl
    .simp at hx
   rw[aN wG];exact⟨o3,s3⟩
 rintro NK aP ⟨tW,iq⟩;have hlen:(if args=[]then aHG (iO bh)else(aHG (iO bh)).reverse).length=(iO bh).length:=by split<;>simp[vM]
 have hfs:dF (if args=[]then aHG (iO bh)else(aHG (iO bh)).reverse)<=bh.length+1:=by
  have hp:(if args=[]then aHG (iO bh)else(aHG (iO bh)).reverse).Perm (iO bh):=by
   split
   .exact De _ _
   .exact(List.reverse_perm _).trans (De _ _)
  rw[avB hp];exact arx bh
 rw[<-hlen]at tW;have hj:=ao6 tW (by omega);rw[hlen]at hj;refine hj.mono ?_;rintro _ bg ⟨rfl,ou⟩;refine .inl ⟨_,rfl,(acf _).mono ?_⟩;rintro _ bI ⟨rfl,fX⟩;have mX:=((r1.still iq).still ou).still fX;refine .inl ⟨_,_,_,_,rfl,bF (g:=w.heap.size) (o:=0) mX λaHa qH m13 aJi=>?_⟩;exact⟨_,_,_,qH.ai rfl,qH.ai rfl,qH.ai rfl,rfl,(((s1.trans iq).trans ou).trans fX).box (aR _) m13⟩
def ME:List (ag×FuncId):=[([116,114,117,101],Zg),([102,97,108,115,101],Zr),([101,99,104,111],aJ6),([104,101,97,100],Y5),([116,97,105,108],Y6),([119,99],Zs),([115,111,114,116],F3),([117,110,105,113],Y7),([99,117,116],Zh),([116,114],Zt),([103,114,101,112],Y8),([98,97,115,101,110,97,109,101],Yq),([100,105,114,110,97,109,101],Yy)]
def HG:List (ag×FuncId):=[([99,97,116],FV),([99,112],YT),([109,118],YU),([108,110],YV),([114,109],YW),([109,107,100,105,114],Yt),([114,109,100,105,114],Yu),([116,111,117,99,104],Yv),([99,104,109,111,100],Yw),([108,115],FZ),([116,101,115,116],Yx),([91],Yf),([99,109,112],YJ),([116,101,101],YK),([114,101,97,100,108,105,110,107],X8)]
def Nj(l:List (ag×FuncId)):List (ag×Value):=l.map λx=>(x.1,.func (.func x.2) #[] #[])
def aop:(ME.all λx=>cY aL x.2)=true:=by kernel_rfl
def aoq:(HG.all λx=>cY aL x.2)=true:=by kernel_rfl
def aIu:Tryz.prog.underlying 81=some (.map bJ 45):=rfl
def atr(w:World):(zeroValue 45).run aL w=.ok .nilFunc w:=rfl
def gF:Tryz.prog.underlying 426=some (.map bJ 424):=rfl
def ach(w:World):(zeroValue 424).run aL w=.ok .nilFunc w:=rfl
def aci{f0:ag}{fr:List ag}{fn:FuncId}(hm:(f0,fn)∈ME){bh:ag}{st:Int}{out:ag}(hf:MD fn fr bh st out){p:Option Addr}{c:Nat}(he:aHx w)(h:jt w p c (f0::fr)):
  an Ky #[.slice p (f0::fr).length c,.string (S bh)] w (λe w'=>e=.returned (.tuple #[.agg #[.int .i64 st,.string (S out),.string (S [])],.bool true])/\Still w w'):=by
 apply am0;refine aO λw0 r0 s0 z0=>mg ?_;have s1:Still w (w0.alloc (.map #[] 0)):=s0.trans ((Mod.refl _ _).alloc _);have za:w.heap.size<=w0.heap.size:=s0.size;have rr:Row (w0.alloc (.map #[] 0)) w.heap.size 35 ⟨[.int .i64 0,.string (S []),.string (S [])]⟩:=r0.still ((Mod.refl _ _).alloc _);have f1:=aH8.new w0;generalize w0.alloc (.map #[] 0)=w1 at*;refine de aIu f1 (by decide) rfl λw2 f2 m2 z2=>?_;refine de aIu f2 (by decide) rfl λw3 f3 m3 z3=>?_;refine de aIu f3 (by decide) rfl λw4 f4 m4 z4=>?_;refine de aIu f4 (by decide) rfl λw5 f5 m5 z5=>?_;refine de aIu f5 (by decide) rfl λw6 f6 m6 z6=>?_;refine de aIu f6 (by decide) rfl λw7 f7 m7 z7=>?_;refine de aIu f7 (by decide) rfl λw8 f8 m8 z8=>?_;refine de aIu f8 (by decide) rfl λw9 f9 m9 z9=>?_;refine de aIu f9 (by decide) rfl λaP f10 m10 aIt=>?_;refine de aIu f10 (by decide) rfl λbg f11 m11 wM=>?_;refine de aIu f11 (by decide) rfl λbI f12 m12 z12=>?_;refine de aIu f12 (by decide) rfl λaHa f13 m13 aJi=>?_;refine de aIu f13 (by decide) rfl λbR f14 m14 N8=>?_;have fl:aH8 bR w0.heap.size (Nj ME):=f14;have ji:=(((((((((((((s1.box za m2).box za m3).box za m4).box za m5).box za m6).box za m7).box za m8).box za m9).box za m10).box za m11).box za m12).box za m13).box za m14);clear f1 f2 f3 f4 f5 f6 f7 f8 f9 f10 f11 f12 f13 f14;have rH:Row bR w.heap.size 35 ⟨[.int .i64 0,.string (S []),.string (S [])]⟩:=(((((((((((((rr.mod m2 (by omega)).mod m3 (by omega)).mod m4 (by omega)).mod m5 (by omega)).mod m6 (by omega)).mod m7 (by omega)).mod m8 (by omega)).mod m9 (by omega)).mod m10 (by omega)).mod m11 (by omega)).mod m12 (by omega)).mod m13 (by omega)).mod m14 (by omega));refine ax (λh=>absurd (aQ h) (by simp;omega)) (λ_=>?_);have qE:=h.still ji;obtain⟨a,rfl,hc⟩:=qE.get (j:=0) (by simp);refine⟨by decide,by simp,_,hc,?_⟩;refine Ud aIu atr fl (dM.2 ⟨(f0,fn),hm,rfl⟩) ?_;refine ax (λh=>by cases h) (λ_=>⟨by decide,by simp;omega,?_⟩);refine aI1 (cap:=[]) (ax (λ_=>?_) (λh=>by rw[nO.1 aop _ hm]at h;cases h));refine(hf bR _ _ (he.still ji) qE.tail).mono ?_;rintro _ dI ⟨rfl,lp⟩;refine .inl ⟨_,_,_,_,rfl,?_⟩;refine aO λaHr CU j7 z19=>bF (g:=dI.heap.size) (o:=0) CU λgR tT m20 z20=>?_;refine ax (λh=>by cases h) (λ_=>⟨_,_,_,tT.ai rfl,tT.ai rfl,tT.ai rfl,?_⟩);have aBf:Row gR w.heap.size 35 ⟨[.int .i64 0,.string (S []),.string (S [])]⟩:=(((rH.still lp).still j7).mod m20 (by have:=rH.lt;have:=lp.size;omega));refine bF (g:=w.heap.size) (o:=0) aBf λfN aKt m21 z21=>?_;exact⟨_,_,_,aKt.ai rfl,aKt.ai rfl,aKt.ai rfl,rfl,((((ji.trans lp).trans j7).box (by have:=ji.size;have:=lp.size;omega) m20).box (aR _) m21)⟩
def Lm{f0:ag}{fr:List ag}{fn:FuncId}(hm:(f0,fn)∈ME)(hn:(HG.all λx=>!decide (x.1=f0))=true)(hl:f0.length<=1000){bh:ag}{st:Int}{out:ag}(hf:MD fn fr bh st out)(T:Tree):aIN T (f0::fr) bh st out [] T:=by intro w w0 a g pb t p c B bP h0 hst aJh hrf ho;apply YZ;refine aO λwA r0 s0 z0=>mg ?_;have s1:Still w (wA.alloc (.map #[] 0)):=s0.trans ((Mod.refl _ _).alloc _);have za:w.heap.size<=wA.heap.size:=s0.size;have rr:Row (wA.alloc (.map #[] 0)) w.heap.size 35 ⟨[.int .i64 0,.string (S []),.string (S [])]⟩:=r0.still ((Mod.refl _ _).alloc _);have f1:=aH8.new wA;generalize wA.alloc (.map #[] 0)=w1 at*;refine de gF f1 (by decide) rfl λw2 f2 m2 z2=>?_;refine de gF f2 (by decide) rfl λw3 f3 m3 z3=>?_;refine de gF f3 (by decide) rfl λw4 f4 m4 z4=>?_;refine de gF f4 (by decide) rfl λw5 f5 m5 z5=>?_;refine de gF f5 (by decide) rfl λw6 f6 m6 z6=>?_;refine de gF f6 (by decide) rfl λw7 f7 m7 z7=>?_;refine de gF f7 (by decide) rfl λw8 f8 m8 z8=>?_;refine de gF f8 (by decide) rfl λw9 f9 m9 z9=>?_;refine de gF f9 (by decide) rfl λaP f10 m10 aIt=>?_;refine de gF f10 (by decide) rfl λbg f11 m11 wM=>?_;refine de gF f11 (by decide) rfl λbI f12 m12 z12=>?_;refine de gF f12 (by decide) rfl λaHa f13 m13 aJi=>?_;refine de gF f13 (by decide) rfl λbR f14 m14 N8=>?_;refine de gF f14 (by decide) rfl λct f15 m15 I1=>?_;refine de gF f15 (by decide) rfl λbX f16 m16 Oh=>?_;have fl:aH8 bX wA.heap.size (Nj HG):=f16;have mw:=(((((((((((((((s1.box za m2).box za m3).box za m4).box za m5).box za m6).box za m7).box za m8).box za m9).box za m10).box za m11).box za m12).box za m13).box za m14).box za m15).box za m16);clear f1 f2 f3 f4 f5 f6 f7 f8 f9 f10 f11 f12 f13 f14 f15 f16;have r16:Row bX w.heap.size 35 ⟨[.int .i64 0,.string (S []),.string (S [])]⟩:=(((((((((((((((rr.mod m2 (by omega)).mod m3 (by omega)).mod m4 (by omega)).mod m5 (by omega)).mod m6 (by omega)).mod m7 (by omega)).mod m8 (by omega)).mod m9 (by omega)).mod m10 (by omega)).mod m11 (by omega)).mod m12 (by omega)).mod m13 (by omega)).mod m14 (by omega)).mod m15 (by omega)).mod m16 (by omega));refine ax (λh=>absurd (aQ h) (by simp;omega)) (λ_=>?_);have hA:=(jt.of ho).still mw;obtain⟨ad,rfl,hc⟩:=hA.get (j:=0) (by simp);refine⟨by decide,by simp,_,hc,?_⟩;refine adU gF ach fl hl (by rw[Nj,List.all_map];exact hn) ?_;refine ax (λ_=>?_) (λh=>by cases h);refine(aci hm hf ((bP.still h0).still mw) hA).mono ?_;rintro _ dI ⟨rfl,lp⟩;refine .inl ⟨_,_,_,_,rfl,bF (g:=w.heap.size) (o:=0) (r16.still lp) λgR tT m20 z20=>?_⟩;have mu:Still w gR:=(mw.trans lp).box (aR _) m20;exact⟨_,_,_,tT.ai rfl,tT.ai rfl,tT.ai rfl,rfl,⟨0,by decide,hst.still mu⟩,mu.weaken λ_ h=>h.elim⟩
abbrev azx:TypeId:=429
def yO(w:World)(rb pb:Nat)(nm bh:ag)(st:Int)(out err:ag):Prop:=Row w rb azx ⟨[.pointer (some ⟨pb,0,none⟩),.string (S nm),.string (S bh),.int .i64 st,.string (S out),.string (S err)]⟩
def cv.typed{B a g n:Nat}{tr:Option Tb}{T:Tree}(h:cv w B a g tr n T){k:Nat}{ty:TypeId}{cs:Array Value}(hr:Row w k ty cs)(h1:ty≠aHV)(h2:ty≠F4):¬SF a g tr k:=by
 rintro(rfl|rfl|⟨t,ht,hk⟩)
 .exact hr.ne h.top h1 rfl
 .exact h.now.c7 hr rfl
 .have d:=h.qB t ht
  obtain⟨_,o1,_⟩:=d.old;obtain⟨_,r1,_⟩:=d.rd;obtain⟨_,p1,_⟩:=d.wr;rcases hk with rfl|rfl|rfl|rfl
  .exact hr.ne d.top h2 rfl
  .exact o1.c7 hr rfl
  .exact r1.c7 hr rfl
  .exact p1.c7 hr rfl
def Vz(fn:FuncId)(nm:ag)(args:List ag)(T:Tree)(bh:ag)(st:Int)(out err:ag)(T':Tree):Prop:=∀(w w0:World) (a g rb pb:Nat) (t:Tb) (p:Option Addr) (c:Nat),aHx w0->Still w0 w->cv w w0.heap.size a g (some t) 0 T->ga w pb a->¬RF (some t) pb->yO w rb pb nm bh 0 [] []->¬SF a g (some t) rb->jt w p c args->(∀ad,p=some ad->ad.block≠rb/\¬SF a g (some t) ad.block)->w0.heap.size<=rb->
 an fn #[.pointer (some ⟨rb,0,none⟩),.slice p args.length c] w (λe w'=>e=.returned (.tuple #[])/\yO w' rb pb nm bh st out err/\(∃n,n<=12/\cv w' w0.heap.size a g (some t) n T')/\Mod (λk=>SF a g (some t) k\/k=rb) w w')
def ad5(p:Option Addr)(x:ag):an Kc #[.pointer p,.string (S x),.int .i64 0] w (λe w'=>e=.returned (.tuple #[])/\w'=w):=by apply al0;exact ax (λh=>by cases h) (λ_=>⟨rfl,rfl⟩)
def aw9{path nm:ag}(o:ny path nm)(h45:path≠[45]){T:Tree}{d:ag}(hf:gz T (jr nm)=⟨1,6,d⟩)(n bh:ag)(hd:d.length<=1000000):Vz FV n [path] T bh 0 d [] T:=by
 intro w w0 a g rb pb t p c bP h0 hst aJh hrf hr hrb hA hAb yM;obtain⟨ad,rfl,hc⟩:=hA.get (j:=0) (by simp);have hc:w.cell? (ad.add 0)=some (.string (S path)):=hc;have Ol:¬RF (some t) rb:=λh=>hrb (RF.sf h);apply ama;refine⟨λw2=>w2=w,ax (λh=>by simp at h) (λ_=>rfl),?_⟩;rintro _ w2 rfl;refine⟨λx w3=>(x=0/\w3=w2)\/(x=1/\yO w3 rb pb n bh 0 d []/\cv w3 w0.heap.size a g (some t) 3 T/\Mod (λk=>SF a g (some t) k\/k=rb) w2 w3),λx _=>(1-x).toNat,.inl ⟨rfl,rfl⟩,?_⟩;rintro x _ w3 (⟨rfl,rfl⟩|⟨rfl,h1,h2,h3⟩)
 .refine ax (λ_=>⟨by decide,by simp,_,hc,?_⟩) (λh=>by simp at h)
  refine ax (λh=>absurd (aQ h) h45) (λ_=>?_);refine⟨_,hr.ai rfl,(abY bP h0 hst aJh hrf o hf).mono ?_⟩;rintro _ w5 ⟨rfl,h5,m5⟩;have r5:yO w5 rb pb n bh 0 [] []:=hr.mod m5 Ol;refine .inl ⟨_,_,rfl,(ad5 _ _).mono ?_⟩;rintro _ w6 ⟨rfl,rfl⟩;refine .inl ⟨rfl,_,r5.ai rfl,by simp;omega,?_⟩;refine bF (g:=rb) (o:=4) r5 λw7 r7 m7 z7=>⟨.inr ⟨by decide,r7,h5.mod m7 λk hk e=>hrb (e▸hk),?_⟩,by dsimp only;decide⟩;exact Mod.trans (m5.weaken λ_ h=>.inl (RF.sf h)) m7 (λ_ h=>h) λ_ _ h=>.inr h
 .exact ax (λh=>by simp at h) (λ_=>⟨rfl,h1,⟨3,by decide,h2⟩,h3⟩)
def ac8{f0:ag}{fr:List ag}{fn:FuncId}(hm:(f0,fn)∈HG){T T':Tree}{bh:ag}{st:Int}{out err:ag}(hf:Vz fn f0 fr T bh st out err T'):aIN T (f0::fr) bh st out err T':=by
 intro w w0 a g pb t p c B bP h0 hst aJh hrf ho;apply YZ;refine aO λwA r0 s0 z0=>mg ?_;have s1:Still w (wA.alloc (.map #[] 0)):=s0.trans ((Mod.refl _ _).alloc _);have za:w.heap.size<=wA.heap.size:=s0.size;have rr:Row (wA.alloc (.map #[] 0)) w.heap.size 35 ⟨[.int .i64 0,.string (S []),.string (S [])]⟩:=r0.still ((Mod.refl _ _).alloc _);have f1:=aH8.new wA;generalize wA.alloc (.map #[] 0)=w1 at*;refine de gF f1 (by decide) rfl λw2 f2 m2 z2=>?_;refine de gF f2 (by decide) rfl λw3 f3 m3 z3=>?_;refine de gF f3 (by decide) rfl λw4 f4 m4 z4=>?_;refine de gF f4 (by decide) rfl λw5 f5 m5 z5=>?_;refine de gF f5 (by decide) rfl λw6 f6 m6 z6=>?_;refine de gF f6 (by decide) rfl λw7 f7 m7 z7=>?_;refine de gF f7 (by decide) rfl λw8 f8 m8 z8=>?_;refine de gF f8 (by decide) rfl λw9 f9 m9 z9=>?_;refine de gF f9 (by decide) rfl λaP f10 m10 aIt=>?_;refine de gF f10 (by decide) rfl λbg f11 m11 wM=>?_;refine de gF f11 (by decide) rfl λbI f12 m12 z12=>?_;refine de gF f12 (by decide) rfl λaHa f13 m13 aJi=>?_;refine de gF f13 (by decide) rfl λbR f14 m14 N8=>?_;refine de gF f14 (by decide) rfl λct f15 m15 I1=>?_;refine de gF f15 (by decide) rfl λbX f16 m16 Oh=>?_;have fl:aH8 bX wA.heap.size (Nj HG):=f16;have mw:=(((((((((((((((s1.box za m2).box za m3).box za m4).box za m5).box za m6).box za m7).box za m8).box za m9).box za m10).box za m11).box za m12).box za m13).box za m14).box za m15).box za m16);clear f1 f2 f3 f4 f5 f6 f7 f8 f9 f10 f11 f12 f13 f14 f15 f16;have r16:Row bX w.heap.size 35 ⟨[.int .i64 0,.string (S []),.string (S [])]⟩:=(((((((((((((((rr.mod m2 (by omega)).mod m3 (by omega)).mod m4 (by omega)).mod m5 (by omega)).mod m6 (by omega)).mod m7 (by omega)).mod m8 (by omega)).mod m9 (by omega)).mod m10 (by omega)).mod m11 (by omega)).mod m12 (by omega)).mod m13 (by omega)).mod m14 (by omega)).mod m15 (by omega)).mod m16 (by omega));refine ax (λh=>absurd (aQ h) (by simp;omega)) (λ_=>?_);have HY:=ho.still mw;have hA:=jt.of HY;obtain⟨ad,hp,hc⟩:=hA.get (j:=0) (by simp);subst hp;refine⟨by decide,by simp,_,hc,?_⟩;refine Ud gF ach fl (dM.2 ⟨(f0,fn),hm,rfl⟩) ?_;refine ax (λh=>by cases h) (λ_=>⟨by decide,by simp,_,hc,?_⟩);refine aO λfN aKt qI z21=>⟨by decide,by simp;omega,?_⟩;refine aI1 (cap:=[]) (ax (λ_=>?_) (λh=>by rw[nO.1 aoq _ hm]at h;cases h));have Nk:=mw.trans qI;have azy:=hst.still Nk;have hsz:=mw.size;have hz0:=h0.size;have hnew:∀k,w.heap.size<=k->¬SF a g (some t) k:=λk hk h=>by have:=(hst.aHO h).2;omega
 have har:=HY.typed rfl;have hblk:∀Jc,(if c=Int.toNat 1 then some ad else Option.map (·.add (Int.toNat 1*1)) (some ad))=some Jc->Jc.block≠bX.heap.size/\¬SF a g (some t) Jc.block:=λJc h=>by
  have hb:Jc.block=ad.block:=by
   split at h
   .exact(bO h)▸rfl
   .exact(bO h)▸rfl
  rw[hb];obtain⟨gq,o,e,hlt,_⟩:=hA.2 (by simp);obtain rfl:=bO e;obtain⟨gr,cap,cur,hv,_,hrow,_⟩:=HY.row (by simp);injection hv with e1 e2 e3;obtain⟨rfl,rfl⟩:gq=gr/\o=0:=by have:=bO e1;injection this with x1 x2;exact⟨x1,x2⟩
  exact⟨Dx hlt,(hst.still mw).typed hrow (by decide) (by decide)⟩
 refine(hf fN w0 a g bX.heap.size pb t _ _ bP (h0.trans Nk) azy (aJh.still Nk) hrf aKt (hnew _ hsz) (hA.still qI).tail hblk (by omega)).mono ?_;rintro _ ju ⟨rfl,CV,⟨n,hn,azz⟩,m22⟩;refine .inl ⟨rfl,_,_,_,CV.ai rfl,CV.ai rfl,CV.ai rfl,?_⟩;have CW:Row ju w.heap.size 35 ⟨[.int .i64 0,.string (S []),.string (S [])]⟩:=(r16.still qI).mod m22 (by
  have:=r16.lt;rintro(h|h)
  .exact hnew _ (aR _) h
  .omega)
 refine bF (g:=w.heap.size) (o:=0) CW λtM aKB m23 z23=>?_;have mA:Mod (SF a g (some t)) w ju:=Mod.trans Nk m22 (λ_ h=>h.elim) λj hj h=>h.elim id λe=>by omega
 exact⟨_,_,_,aKB.ai rfl,aKB.ai rfl,aKB.ai rfl,rfl,⟨n,hn,azz.mod m23 λk hk e=>hnew _ (aR _) (e▸hk)⟩,Mod.trans mA m23 (λ_ h=>h) λj hj e=>by omega⟩
def acj{T:Tree}:∀{ts:List ag},(∀t∈ts,P.oF t=false/\t.length<1000000)->HE T ts (ts.map P.plain)
 |[],_=>rfl
 |t::ts,h=>⟨[P.plain t],ts.map P.plain,arb (h t (by simp)).1 (h t (by simp)).2,acj λx hx=>h x (by simp[hx]),rfl⟩
def abb{T:Tree}{V V':List A.Vr}{ps:List L.Pt}{gs:List F.Sg}{ts out:List ag}(ok:AJ V ps (.ok (gs,V')))(hi:(sA V').length<=1000000)(hf:F.nR (sA V') gs=ts)(ht:∀t∈ts,P.oF t=false/\t.length<1000000)(ho:ts.map P.plain=out)(hl:out.length<=1000):Aw T V ps out V' 0:=by
 have hlt:ts.length<=1000:=by rw[<-ho,ke]at hl;exact hl
 exact .inl ⟨rfl,gs,ok,hi,by rw[hf,<-ho];exact acj ht,hl,by rw[hf];exact hlt⟩
def ad6:pX []:=⟨by simp[A.aIx],λv hv=>by cases hv⟩
def avC{T:Tree}{q:Bool}{t:ag}(hl:t.length<=1000)(hf:(F.nR [32,9,10] [⟨if q then 1 else 0,t⟩]).map P.plain=[t])(hs:((F.nR [32,9,10] [⟨if q then 1 else 0,t⟩]).all λx=>!P.oF x&&decide (x.length<1000000))=true):Aw T [] [⟨0,q,t,[],[],[]⟩] [t] [] 0:=by
 have hr:tJ [⟨0,q,t,[],[],[]⟩] []=some (.ok ([⟨if q then 1 else 0,t⟩],[])):=rfl;refine abb (gs:=[⟨if q then 1 else 0,t⟩]) ⟨ad6,?_,(by show 1<=900;decide),?_,hr,(by show 1<=1000;decide),?_⟩ (by decide) rfl (λx hx=>?_) hf (by show 1<=1000;decide)
 .show 0+(t.length+1+0)<=50000
  omega
 .intro x hx
  obtain rfl:=jb.1 hx;show(0:Int)≠2
  decide
 .show(2*t.length+1+0)<=500000
  omega
 .have:=nO.1 hs x hx
  simpa using this
def H9(l:List (Bool×ag)):List (List L.Pt):=l.map λx=>[⟨0,x.1,x.2,[],[],[]⟩]
def Az(x:Bool×ag):Bool:=decide (x.2.length<=1000)&&(decide ((F.nR [32,9,10] [⟨if x.1 then 1 else 0,x.2⟩]).map P.plain=[x.2])&&(F.nR [32,9,10] [⟨if x.1 then 1 else 0,x.2⟩]).all λx=>!P.oF x&&decide (x.length<1000000))
def ac9{T:Tree}:∀{l:List (Bool×ag)},l.all Az=true->yJ T (H9 l) [] (l.map Prod.snd) [] 0
 |[],_=>⟨rfl,rfl,rfl⟩
 |x::r,h=>by obtain⟨q,t⟩:=x;rw[FY,e_]at h;obtain⟨h1,h2⟩:=h;simp only[Az,e_,nk]at h1;exact⟨[],[t],0,avC h1.1 h1.2.1 h1.2.2,.inr ⟨rfl,_,ac9 h2,rfl⟩⟩
def S7{t:ag}(hl:t.length<=1000)(q:Bool):AJ [] [⟨0,q,t,[],[],[]⟩] (.ok ([⟨if q then 1 else 0,t⟩],[])):=by
 refine⟨ad6,?_,(by show 1<=900;decide),?_,rfl,(by show 1<=1000;decide),?_⟩
 .show 0+(t.length+1+0)<=50000
  omega
 .intro x hx
  obtain rfl:=jb.1 hx;show(0:Int)≠2
  decide
 .show(2*t.length+1+0)<=500000
  omega
def R9(q:Bool)(t:ag):F.joined false [⟨if q then 1 else 0,t⟩]=t:=by cases q<;>simp[F.joined,F.aIv]
def TI{n:L.Nd}{l:List (Bool×ag)}{f0:ag}{fr:List ag}{s s2:Sh}{x1:sB}{nm:ag}{st:Int}{out:ag}{T':Tree}(hk:n.k=0)(hw:s.way=0)(hfu:0<s.fuel)(rG:n.ws=H9 l)(has:n.aHv=[])(hl:l.all Az=true)(aH5:l.map Prod.snd=f0::fr)(hV:s.V=[])(hsz:dF (f0::fr)<=900)(hrl:n.rs.length<=10000)(he:s.err.length<=900000)(hn:f0∉aKq)
  (hr:aJd n.rs {s with fuel:=s.fuel-1,last:=-1} ⟨s.bh,[],false,false⟩ s2 x1)(ht:aIN s2.T (f0::fr) x1.bh st out [] T')(hT:gu T')(hb:0<s2.b6)(hin:x1.bh.length<=50000)(hV2:s2.V=[])(ho:s2.out.length+out.length<=1000000000)(tP:s2.err.length<=1000000)
  (hx:x1.is=true->1<s2.b6/\ny x1.dst nm/\nm≠[46]/\Lib.lastIndexByte (S (47::nm)) 47=0/\aKo T' nm out):
  mY n s (Ax x1 s2 {s2 with bh:=x1.bh,T:=T',b6:=s2.b6-1,st:=st,out:=(if x1.is then[]else s2.out)++out,err:=s2.err++[]} nm):=by
 refine Eh (.inr (.inr (.inr hk))) hw hfu ?_;rw[show Ez n.k=Db by rw[hk];rfl];have hlw:l.length<=3000:=by have:=fT List.length aH5;rw[ke]at this;have:=G1 (f0::fr);omega
 have hfz:f0.length<=dF (f0::fr):=TE (by simp);refine ab4 (s:={s with fuel:=s.fuel-1}) (f:=f0::fr) (V1:=[]) (s2:=s2) (s3:={s2 with bh:=x1.bh,T:=T',b6:=s2.b6-1,st:=st,out:=(if x1.is then[]else s2.out)++out,err:=s2.err++[]}) (x1:=x1) (nm:=nm) ?_ (by omega) (by rw[rG,H9,ke];omega) hrl he ?_ ?_ (λh=>?_)
 .rw[rG,<-aH5]
  show yJ s.T (H9 l) s.V _ [] 0;rw[hV];exact ac9 hl
 .have:({s with fuel:=s.fuel-1,last:=-1,V:=[]}:Sh)={s with fuel:=s.fuel-1,last:=-1}:=by rw[<-hV]
  show aJd n.rs ({s with fuel:=s.fuel-1,last:=-1,V:=[]}:Sh) _ _ _;rw[this];exact hr
 .rw[has]
  refine ab3 (s:={s2 with bh:=x1.bh,out:=if x1.is then[]else s2.out}) hn (by omega) ht hT hb (by omega) hin ?_ ?_ ?_ ?_
  .show s2.V.length<900000
   rw[hV2];decide
  .show∀v∈s2.V,_
   rw[hV2];intro v hv;cases hv
  .show(if x1.is then[]else s2.out:ag).length+out.length<=_
   split
   .rw[cq];omega
   .exact ho
  .exact tP
 .obtain⟨h1,h2,h3,h4,h5⟩:=hx h
  refine⟨?_,h2,h3,h4,?_⟩
  .show 0<s2.b6-1
   omega
  .show aKo T' nm ((if x1.is then[]else s2.out)++out)
   rw[h,aN rfl,Dp];exact h5
end Go.Proofs.YtihaaoehhgmphaaGreatDoor
