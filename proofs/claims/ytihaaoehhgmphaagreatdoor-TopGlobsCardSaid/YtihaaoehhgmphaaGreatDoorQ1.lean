/- Texts of one proof, one behind the other. Conditions: as each theorem names them. -/
import Derived.WalkKit
import Derived.Laws.CopyOwn
import Derived.Laws.StructEq
import Derived.WalkLawsBesides
import Derived.KernelRfl
import Derived.Lib.Builder
import Derived.Lib.UnsafeStr
import Derived.Lib.IfaceEq
import Derived.Stop.IfaceNil
import Derived.LaidEql
import Derived.Lib.ConvBytes
import Derived.Maps.AppendAt
import Derived.Deep.Quiet
import Derived.StillTail
import Derived.Lib.OthersKept
import Derived.Laws.Externs
import Derived.Laws.IdiomRangeMap
import Derived.MapKept
import Derived.OrdersHeld
import Derived.Defers
import Derived.Recover
set_option linter.all false
namespace Go.Proofs
def aH:=@if_neg
def aN:=@if_pos
def aQ:=@of_decide_eq_true
def aR:=@Nat.le_refl
def fT:=@congrArg
def aZ:=@of_decide_eq_false
def a_:=@List.length_cons
def bO:=@Option.some.inj
def bW:=@Int.toNat_natCast
def aHb:=@List.length_append
def cq:=@List.length_nil
def cL:=@Nat.zero_add
def dM:=@List.mem_map
def dU:=@Nat.zero_le
def eZ:=@List.length_take
def e_:=@Bool.and_eq_true
def aHA:=@Nat.mul_one
def fY:=@decide_eq_false
def gi:=@List.map_cons
def gE:=@List.mem_cons
def iw:=@List.getElem?_eq_some_iff
def iy:=@List.getElem?_eq_getElem
def jc:=@decide_eq_true
def jb:=@List.mem_singleton
def jq:=@if_false
def kf:=@Nat.le_trans
def ke:=@List.length_map
def j9:=@List.append_assoc
def j_:=@List.length_drop
def kM:=@Array.ext'
def kL:=@List.getElem_mem
def lB:=@Nat.lt_succ_self
def l9:=@Bool.false_eq_true
def mC:=@List.eq_nil_of_length_eq_zero
def mE:=@List.mem_append
def aH0:=@List.take_length
def nk:=@decide_eq_true_eq
def nj:=@List.length_pos_iff
def nO:=@List.all_eq_true
def oB:=@Nat.lt_of_lt_of_le
def oz:=@Nat.eq_of_beq_eq_true
def aIf:=@Array.getElem?_eq_some_iff
def pq:=@if_true
def pe:=@List.suffix_cons
def o_:=@Array.mem_of_getElem?
def aIk:=@List.append_nil
def aIh:=@List.take_append_drop
def aIi:=@Nat.eq_zero_or_pos
def aIj:=@List.flatMap_cons
def qO:=@List.ext_getElem?
def qR:=@List.map_nil
def qP:=@List.cons_append
def qM:=@List.drop_eq_getElem_cons
def rN:=@List.getElem?_set_ne
def rO:=@List.mem_append_left
def rP:=@List.sum_cons
def aIV:=@Bool.eq_iff_iff
def sX:=@List.getElem?_set_self
def aIY:=@Prod.mk.injEq
def aIW:=@List.map_append
def sZ:=@List.suffix_refl
def aIU:=@decide_eq_decide
def ud:=@List.getElem?_eq_none
def uf:=@List.mem_of_getElem?
def ue:=@List.mem_append_right
def ug:=@List.not_mem_nil
def uh:=@or_false
def vF:=@List.getElem?_map
def vD:=@List.take_of_length_le
def vG:=@List.size_toArray
def aJl:=@List.exists_cons_of_ne_nil
def aJA:=@Bool.false_or
def aJy:=@List.mapM_cons
def aJw:=@List.map_toArray
def wX:=@List.getElem?_append_left
def w_:=@Nat.lt_or_ge
def aJz:=@List.mem_range
def aJB:=@Prod.mk.inj
def aJx:=@List.drop_length
def zy:=@decide_eq_false_iff_not
def aJ1:=@List.getElem?_take
def zG:=@List.length_set
def aJ3:=@Bool.not_eq_true'
def aJ4:=@List.foldl_cons
def aJ7:=@Nat.add_mul
def zx:=@List.getElem?_append_right
def aJY:=@List.drop_succ_cons
def Bl:=@List.getElem?_toArray
def Bk:=@Nat.add_sub_cancel_left
def Bq:=@Nat.lt_irrefl
def Br:=@Bool.true_and
def aKn:=@Nat.le_succ
def Bj:=@List.take_succ_eq_append_getElem
def Bo:=@List.drop_drop
def Dg:=@List.getElem?_drop
def Dl:=@List.getElem?_set
def Dp:=@List.nil_append
def Dz:=@Nat.mod_lt
def Dw:=@List.map_map
def DA:=@beq_iff_eq
def Dx:=@Nat.ne_of_lt
def De:=@List.mergeSort_perm
def Du:=@Bool.or_false
def Dh:=@List.contains_cons
def Dq:=@Nat.min_eq_left
def Fw:=@Array.getElem?_modify
def F1:=@Nat.add_zero
def FX:=@Nat.add_assoc
def FL:=@Option.map_some
def F2:=@Nat.zero_mul
def Gp:=@Ne.symm
def FG:=@Option.some.injEq
def FH:=@List.take_add_one
def FA:=@List.filter_eq_self
def FM:=@List.nodup_cons
def Fx:=@List.mem_cons_of_mem
def FQ:=@List.drop_zero
def FJ:=@Nat.le_add_right
def FY:=@List.all_cons
def FN:=@List.mem_filter
def aKx:=@Decidable.byContradiction
def FI:=@List.contains_nil
def FD:=@decide_eq_true_iff
def Jy:=@Bool.and_eq_false_iff
def JD:=@List.getElem?_append
def JK:=@Array.length_toList
def Jt:=@Array.mapM_eq_mapM_toList
def J1:=@Nat.le_of_not_lt
def Jp:=@Array.getD_eq_getD_getElem?
def Jz:=@List.set_append_right
def J6:=@UInt8.toNat_inj
def JT:=@Array.toList_push
def JA:=@Array.getElem?_toList
def JU:=@List.filter_congr
def Kq:=@UInt8.not_lt
def Kr:=@Nat.le_of_lt
def Ks:=@List.sum_nil
def JL:=@List.takeWhile_cons
def Kg:=@Bool.false_and
def Kh:=@Bool.and_false
def JB:=@List.count_cons_of_ne
def aKE:=@And.left
def P0:=@List.getElem?_cons
def OV:=@List.setIfInBounds_toArray
def O_:=@Option.map_eq_some_iff
def O0:=@List.extract_eq_take_drop
def Pn:=@Nat.le_of_ble_eq_true
def Q6:=@decide_false
def QC:=@Option.map_none
def Qq:=@List.isEmpty_iff
def Qd:=@Array.size_append
def OS:=@List.take_append_of_le_length
def QD:=@Bool.or_eq_true
def Pb:=@Array.getElem?_eq_none
def Qr:=@List.mem_flatMap
def QE:=@List.find?_some
def O1:=@List.mem_of_find?_eq_some
def Qe:=@List.nodup_append
def Qs:=@List.filter_cons
def P3:=@Nat.add_sub_cancel
def PJ:=@List.dropWhile_cons
def OW:=@List.isPrefixOf_iff_prefix
def Po:=@List.length_replicate
def OX:=@Int.tmod_eq_emod_of_nonneg
def P4:=@Nat.lt_of_le_of_lt
def Q7:=@Nat.ne_of_gt
def Q8:=@Nat.mul_comm
def Pw:=@List.mem_of_mem_take
def P5:=@List.filter_append
def QK:=@List.take_take
def Q9:=@Nat.le_of_eq
def QF:=@Int.one_ne_zero
def PK:=@List.flatMap_append
def QU:=@Bool.or_assoc
def Qf:=@UInt8.ofNat_toNat
def Qt:=@List.all_reverse
def Qg:=@List.count_append
def O6:=@Int.eq_ofNat_of_zero_le
def O7:=@List.getElem?_cons_zero
def Qu:=@Option.getD_some
def Pp:=@List.length_filter_le
def Xx:=@Array.toList_setIfInBounds
def Yi:=@not_true_eq_false
def X0:=@Array.toList_append
def aLl:=@Array.empty_append
def XW:=@Nat.mul_le_mul_right
def XC:=@Array.setIfInBounds_comm
def X_:=@List.find?_eq_none
def XD:=@Array.getElem?_replicate
def Ya:=@List.set_cons_zero
def Xq:=@Array.getElem?_setIfInBounds_ne
def Yb:=@Nat.pos_of_ne_zero
def XT:=@List.Perm.append_left
def XU:=@List.sizeOf_lt_of_mem
def Yj:=@UInt8.le_antisymm
def Xy:=@List.getD_eq_getElem?_getD
def XG:=@Option.bind_eq_some_iff
def Yn:=@Option.bind_some
def XK:=@List.drop_of_length_le
def X3:=@Nat.mul_le_mul_left
def Yc:=@List.append_of_mem
def XE:=@List.getElem?_take_of_lt
def XF:=@List.eq_of_mem_replicate
def Yd:=@Bool.not_eq_false'
def aLh:=@beq_eq_false_iff_ne
def Yo:=@List.cons_ne_nil
def aLi:=@List.length_reverse
def XH:=@List.pairwise_mergeSort
def aLj:=@List.replicate_succ
def Yp:=@List.getElem_map
end Go.Proofs
namespace Go.Proofs.YtihaaoehhgmphaaGreatDoor
open IntKind Go.RowKit
def HH(cs:Array Value)(fz:Nat×Nat):Prop:=fz.2=0\/cs.size<=fz.1
def Row(w:World)(g:Nat)(t:TypeId)(cs:Array Value):Prop:=∃fz,w.heap[g]?=some (.cells cs t fz)/\HH cs fz
structure Mod(S:Nat->Prop)(w w':World):Prop where
 os:w'.os=w.os
 tape:w'.tape=w.tape
 output:w'.output=w.output
 size:w.heap.size<=w'.heap.size
 block:∀k,k<w.heap.size->¬S k->w'.heap[k]?=w.heap[k]?
section
variable{w w':World}{g:Nat}{t:TypeId}{cs:Array Value}{S:Nat->Prop}
def Row.VF(h:w.heap[g]?=some (.cells cs t (0,0))):Row w g t cs:=⟨_,h,.inl rfl⟩
def Row.lt(h:Row w g t cs):g<w.heap.size:=by obtain⟨fz,h,_⟩:=h;exact(aIf.1 h).1
def Row.cell(h:Row w g t cs)(i:Nat):w.cell? ⟨g,i,none⟩=cs[i]?:=by obtain⟨fz,h,_⟩:=h;exact cell_of_row w g i cs t fz h
def Row.dh(h:Row w g t cs){i:Nat}{v:Value}(hv:cs[i]?=some v):w.cell? ⟨g,i,none⟩=some v:=(h.cell i).trans hv
def Row.frozen(h:Row w g t cs){i:Nat}(hi:i<cs.size):w.frozen? ⟨g,i,none⟩=false:=by obtain⟨⟨lo,hi'⟩,h,hf⟩:=h;simp only[World.frozen?,h,Jy,zy];rcases hf with hf|hf<;>simp only at hf<;>omega
def Row.same(h:Row w g t cs)(hb:w'.heap[g]?=w.heap[g]?):Row w' g t cs:=by obtain⟨fz,h,hf⟩:=h;exact⟨fz,hb.trans h,hf⟩
def Row.new(w:World)(t:TypeId)(cs:Array Value):Row (w.alloc (.cells cs t)) w.heap.size t cs:=Row.VF (heap_alloc_new w _)
def Row.drew(h:Row w g t cs):Row w.drew g t cs:=h
def Row.alloc(h:Row w g t cs)(o:Obj):Row (w.alloc o) g t cs:=h.same (Below.heap_alloc w o g h.lt)
def Row.set(h:Row w g t cs)(i:Nat)(u:Value):Row (w.setCell ⟨g,i,none⟩ u) g t (cs.setIfInBounds i u):=by obtain⟨fz,h,hf⟩:=h;refine⟨fz,?_,by simpa[HH]using hf⟩;simp[World.setCell,Fw,h]
def Row.far(h:Row w g t cs){p:Addr}(hp:g≠p.block)(u:Value):Row (w.setCell p u) g t cs:=h.same (Below.heap_setCell w p u g hp)
def Row.setRow(h:Row w g t cs)(cs':Array Value)(hs:cs'.size=cs.size:=by simp):Row (w.setRow g cs') g t cs':=by obtain⟨fz,h,hf⟩:=h;exact⟨fz,setRow_heap w g cs cs' t _ h,by simpa[HH,hs]using hf⟩
def Row.RP(h:Row w g t cs){g':Nat}(hp:g≠g')(cs':Array Value):Row (w.setRow g' cs') g t cs:=h.same (setRow_other w g' g cs' hp)
def Row.below{B:Nat}(h:Row w g t cs)(hb:Below B w w')(hg:g<B):Row w' g t cs:=h.same (hb.block g hg)
def Row.mod(h:Row w g t cs)(hb:Mod S w w')(hg:¬S g):Row w' g t cs:=h.same (hb.block g h.lt hg)
def Row.grown{row:Option Nat}(h:Row w g t cs)(hb:w.grownBy w' row)(hg:some g≠row):Row w' g t cs:=h.same (hb.block g h.lt hg)
def Row.ne{g':Nat}{t':TypeId}{cs':Array Value}(h:Row w g t cs)(h':Row w g' t' cs')(hne:t≠t'):g≠g':=by rintro rfl;obtain⟨fz,h,_⟩:=h;obtain⟨fz',h',_⟩:=h';rw[h]at h';injection h' with h';injection h' with _ ht;exact hne ht
def Mod.refl(S:Nat->Prop)(w:World):Mod S w w:=⟨rfl,rfl,rfl,aR _,λ_ _ _=>rfl⟩
def Mod.trans{a b c:World}{S T U:Nat->Prop}(h:Mod S a b)(k:Mod T b c)(hS:∀i,S i->U i)(hT:∀i,i<a.heap.size->T i->U i):Mod U a c:=
 ⟨k.os.trans h.os,k.tape.trans h.tape,k.output.trans h.output,kf h.size k.size,
  λi hi hn=>(k.block i (oB hi h.size) (λe=>hn (hT i hi e))).trans (h.block i hi (λe=>hn (hS i e)))⟩
def Mod.weaken{a b:World}{S U:Nat->Prop}(h:Mod S a b)(hS:∀i,S i->U i):Mod U a b:=
 ⟨h.os,h.tape,h.output,h.size,λi hi hn=>h.block i hi (λe=>hn (hS i e))⟩
def Mod.drew{a b:World}(h:Mod S a b):Mod S a b.drew:=⟨h.os,h.tape,h.output,h.size,h.block⟩
def Mod.alloc{a b:World}(h:Mod S a b)(o:Obj):Mod S a (b.alloc o):=
 ⟨h.os,h.tape,h.output,kf h.size (by simp),λi hi hn=>(Below.heap_alloc b o i (oB hi h.size)).trans (h.block i hi hn)⟩
def Mod.setCell{a b:World}(h:Mod S a b){p:Addr}(hp:S p.block\/a.heap.size<=p.block)(u:Value):Mod S a (b.setCell p u):=
 ⟨h.os,h.tape,h.output,by simpa[World.setCell]using h.size,λi hi hn=>(Below.heap_setCell b p u i (by
  rintro rfl;rcases hp with hp|hp
  .exact hn hp
  .omega)).trans (h.block i hi hn)⟩
def Mod.setRow{a b:World}(h:Mod S a b){g:Nat}(hp:S g\/a.heap.size<=g)(cs:Array Value):Mod S a (b.setRow g cs):=
 ⟨h.os,h.tape,h.output,by simpa using h.size,λi hi hn=>(setRow_other b g i cs (by
  rintro rfl;rcases hp with hp|hp
  .exact hn hp
  .omega)).trans (h.block i hi hn)⟩
def Mod.grown{a b c:World}(h:Mod S a b){row:Option Nat}(hg:b.grownBy c row)(hr:∀g,row=some g->S g\/a.heap.size<=g):Mod S a c:=
 ⟨hg.os.trans h.os,hg.tape.trans h.tape,hg.output.trans h.output,kf h.size hg.size,
  λi hi hn=>(hg.block i (oB hi h.size) (λe=>by
   rcases hr i e.symm with hp|hp
   .exact hn hp
   .omega)).trans (h.block i hi hn)⟩
def Mod.below{a b:World}(h:Mod S a b){B:Nat}(hB:B<=a.heap.size)(hS:∀i,S i->B<=i):Below B a b:=
 ⟨h.os,h.tape,h.output,h.size,λk hk=>h.block k (by omega) (λe=>by have:=hS k e;omega)⟩
def Mod.SC{a b:World}(h:Below a.heap.size a b):Mod S a b:=⟨h.os,h.tape,h.output,h.size,λk hk _=>h.block k hk⟩
end
def aS(w:World)(B:Nat)(e:TypeId)(size:Nat)(v:Value)(n:Nat)(xs:List Value):Prop:=
 xs.length=n*size/\
 ((v=.slice none 0 0/\n=0)\/
  ∃g cap cur,v=.slice (some ⟨g,0,none⟩) n cap/\B<=g/\Row w g e cur/\n<=cap/\cap<=maxLen/\cur.size=cap*size/\cur.toList.take (n*size)=xs)
section
variable{w w':World}{B B':Nat}{e:TypeId}{size:Nat}{v:Value}{n:Nat}{xs:List Value}
def aS.nil(w:World)(B:Nat)(e:TypeId)(size:Nat):aS w B e size (.slice none 0 0) 0 []:=⟨by simp,.inl ⟨rfl,rfl⟩⟩
def aS.of(h:w.ownsRow B e size v n xs):aS w B e size v n xs:=by
 obtain⟨h1,h2|⟨g,cap,cur,rfl,h3,h4,h5⟩⟩:=h
 .exact⟨h1,.inl h2⟩
 .exact⟨h1,.inr ⟨g,cap,cur,rfl,h3,.VF h4,h5⟩⟩
def aS.lt(h:aS w B e size v n xs):∀k,v.ownBlock=some k->B<=k/\k<w.heap.size:=by
 intro k hk;rcases h.2 with⟨rfl,_⟩|⟨g,cap,cur,rfl,hb,hg,_⟩
 .simp[Value.ownBlock]at hk
 .simp[Value.ownBlock]at hk
  subst hk;exact⟨hb,hg.lt⟩
def aS.base(h:aS w B e size v n xs)(hb:∀k,v.ownBlock=some k->B'<=k):aS w B' e size v n xs:=by
 obtain⟨h1,h2|⟨g,cap,cur,rfl,_,h3⟩⟩:=h
 .exact⟨h1,.inl h2⟩
 .exact⟨h1,.inr ⟨g,cap,cur,rfl,hb g rfl,h3⟩⟩
def aS.aJO(h:aS w B e size v n xs):aS w 0 e size v n xs:=h.base (λ_ _=>dU _)
def aS.block(h:aS w B e size v n xs)(hb:∀k,v.ownBlock=some k->w'.heap[k]?=w.heap[k]?):aS w' B e size v n xs:=by
 obtain⟨h1,h2|⟨g,cap,cur,rfl,h0,h3,h4⟩⟩:=h
 .exact⟨h1,.inl h2⟩
 .exact⟨h1,.inr ⟨g,cap,cur,rfl,h0,h3.same (hb g rfl),h4⟩⟩
def aS.mod{T:Nat->Prop}(h:aS w B e size v n xs)(hm:Mod T w w')(hT:∀k,v.ownBlock=some k->¬T k):aS w' B e size v n xs:=
 h.block λk hk=>hm.block k (h.lt k hk).2 (hT k hk)
def aS.alloc(h:aS w B e size v n xs)(o:Obj):aS (w.alloc o) B e size v n xs:=
 h.block λk hk=>Below.heap_alloc w o k (h.lt k hk).2
def aS.drew(h:aS w B e size v n xs):aS w.drew B e size v n xs:=h
def aS.far(h:aS w B e size v n xs){p:Addr}(hp:v.ownBlock≠some p.block)(u:Value):aS (w.setCell p u) B e size v n xs:=
 h.block λk hk=>Below.heap_setCell w p u k (λe=>hp (by rw[hk,e]))
def aS.grown{row:Option Nat}(h:aS w B e size v n xs)(hg:w.grownBy w' row)(hne:∀k,v.ownBlock=some k->some k≠row):aS w' B e size v n xs:=
 h.block λk hk=>hg.block k (h.lt k hk).2 (hne k hk)
def aS.form(h:aS w B e size v n xs):∃p c,v=.slice p n c:=by
 rcases h.2 with⟨rfl,rfl⟩|⟨g,cap,cur,rfl,_⟩
 .exact⟨_,_,rfl⟩
 .exact⟨_,_,rfl⟩
def aS.row(h:aS w B e size v n xs)(hn:0<n):∃g cap cur,v=.slice (some ⟨g,0,none⟩) n cap/\B<=g/\Row w g e cur/\n<=cap/\cur.size=cap*size/\cur.toList.take (n*size)=xs:=by
 obtain⟨h1,h2|⟨g,cap,cur,rfl,h0,h3,h4,_,h6,h7⟩⟩:=h
 .omega
 .exact⟨g,cap,cur,rfl,h0,h3,h4,h6,h7⟩
def aS.typed(h:aS w B e size v n xs){k:Nat}(hk:v.ownBlock=some k):∃cur,Row w k e cur:=by
 obtain⟨h1,⟨rfl,_⟩|⟨g,cap,cur,rfl,h0,h3,_⟩⟩:=h
 .cases hk
 .obtain rfl:=bO hk
  exact⟨cur,h3⟩
def aS.cells(h:aS w B e size v n xs){g:Nat}(hg:v.ownBlock=some g):∀j u,xs[j]?=some u->w.cell? ⟨g,j,none⟩=some u:=by
 intro j u hu;rcases h.2 with⟨rfl,_⟩|⟨g',cap,cur,rfl,_,hgg,_,_,_,D4⟩
 .simp[Value.ownBlock]at hg
 .simp[Value.ownBlock]at hg
  subst hg;rw[<-D4,aJ1]at hu;split at hu
  .exact hgg.dh (by simpa using hu)
  .cases hu
def aS.length(h:aS w B e size v n xs):xs.length=n*size:=h.1
def KJ(P:Program)(g o:Nat)(t:TypeId):∀(vs:List Value) (i:Nat) (cur:Array Value) (w:World),Row w g t cur->o+i+vs.length<=cur.size->(∀v∈vs,v.oneCell'=true)->
  (storeCells ⟨g,o,none⟩ vs i).run P w=.ok () (w.setRow g (cur.toList.take (o+i)++vs++cur.toList.drop (o+i+vs.length)).toArray)
 |[],i,cur,w,hg,_,_=>by obtain⟨fz,hg,_⟩:=hg;simp only[storeCells,aIk,cq,F1,aIh,Array.toArray_toList];rw[setRow_self w g cur t fz hg];rfl
 |v::rest,i,cur,w,hg,hl,h1=>by
  have hi:o+i<cur.size:=by simp at hl;omega
  have UH:(⟨g,o,none⟩:Addr).add i=⟨g,o+i,none⟩:=by unfold Addr.add;split<;>simp_all
  have hcell:w.cell? ⟨g,o+i,none⟩=some cur[o+i]:=by rw[hg.cell];simp[hi]
  have azJ:=hg.frozen hi;have hg1:Row (w.setRow g (cur.setIfInBounds (o+i) v)) g t (cur.setIfInBounds (o+i) v):=hg.setRow _;obtain⟨fz,hg0,_⟩:=hg;have hst:(store ((⟨g,o,none⟩:Addr).add i) v).run P w=.ok () (w.setRow g (cur.setIfInBounds (o+i) v)):=by rw[UH,run_store P w _ v _ (h1 v (by simp)),hcell];simp[azJ,setCell_eq_setRow w g (o+i) cur t fz v hg0]
  have ih:=KJ P g o t rest (i+1) (cur.setIfInBounds (o+i) v) (w.setRow g (cur.setIfInBounds (o+i) v)) hg1 (by simp at hl⊢;omega) (λx hx=>h1 x (by simp[hx]));simp only[storeCells,Sem.run_bind,hst,Result.andThen_ok,ih,setRow_setRow];congr 3;simp only[Xx];apply qO;intro j;simp only[JD,aJ1,Dg,eZ,zG,aHb,Dl,a_,JK,P0]
  grind
end
end Go.Proofs.YtihaaoehhgmphaaGreatDoor
namespace Go.Proofs.YtihaaoehhgmphaaGreatDoor.Vc
open IntKind Go.RowKit
abbrev S(l:List UInt8):ByteArray:=⟨⟨l⟩⟩
abbrev Fr:=List Value
def aq(c:Bool)(A B:Prop):Prop:=match c with
 |true=>A
 |false=>B
def ax{c:Bool}{A B:Prop}(ht:c=true->A)(hf:c=false->B):aq c A B:=by
 cases c
 .exact hf rfl
 .exact ht rfl
@[simp]theorem ar7(A B:Prop):aq true A B=A:=rfl
@[simp]theorem aqc(A B:Prop):aq false A B=B:=rfl
def aHL{c:Bool}{A B:Prop}:aq c A B↔(c=true->A)/\(c=false->B):=by cases c<;>simp[aq]
def aE{α:Type}(p:Option α)(K:α->Prop):Prop:=match p with
 |some a=>K a
 |none=>False
@[simp]theorem aaj{α:Type}(a:α)(K:α->Prop):aE (some a) K=K a:=rfl
@[simp]theorem aE_{α:Type}(K:α->Prop):aE none K=False:=rfl
def aKd{α:Type}{p:Option α}{K:α->Prop}(h:aE p K):∃a,p=some a/\K a:=by
 cases p with
 |none=>exact h.elim
 |some a=>exact⟨a,rfl,h⟩
inductive js where
 |int(k:IntKind)
 |bool
 |str
 |ptr
 |slc
 |raw
 deriving DecidableEq
def G3:Value->js
 |.int k _=>.int k
 |.bool _=>.bool
 |.string _=>.str
 |.pointer _=>.ptr
 |.slice _ _ _=>.slc
 |_=>.raw
def DW:js->(Value->Prop)->Prop
 |.int k,K=>∃n:Int,K (.int k n)
 |.bool,K=>∃b:Bool,K (.bool b)
 |.str,K=>∃s:List UInt8,K (.string (S s))
 |.ptr,K=>∃p:Option Addr,K (.pointer p)
 |.slc,K=>∃(p:Option Addr) (n c:Nat),K (.slice p n c)
 |.raw,K=>∃v:Value,v.oneCell'=true/\K v
def Gy:List js->(List Value->Prop)->Prop
 |[],K=>K []
 |x::r,K=>DW x λv=>Gy r λvs=>K (v::vs)
def GI:js->(Value->Prop)->Prop
 |.int k,K=>∀n:Int,K (.int k n)
 |.bool,K=>∀b:Bool,K (.bool b)
 |.str,K=>∀s:List UInt8,K (.string (S s))
 |.ptr,K=>∀p:Option Addr,K (.pointer p)
 |.slc,K=>∀(p:Option Addr) (n c:Nat),K (.slice p n c)
 |.raw,K=>∀v:Value,K v
def La:List js->(List Value->Prop)->Prop
 |[],K=>K []
 |x::r,K=>GI x λv=>La r λvs=>K (v::vs)
def aKF{x:js}{K:Value->Prop}(h:DW x K):∃v,v.oneCell'=true/\K v:=by
 cases x<;>simp only[DW]at h
 .obtain⟨n,h⟩:=h;exact⟨_,rfl,h⟩
 .obtain⟨n,h⟩:=h;exact⟨_,rfl,h⟩
 .obtain⟨n,h⟩:=h;exact⟨_,rfl,h⟩
 .obtain⟨n,h⟩:=h;exact⟨_,rfl,h⟩
 .obtain⟨p,n,c,h⟩:=h;exact⟨_,rfl,h⟩
 .exact h
def Zp{l:List js}{K:List Value->Prop}(h:Gy l K):∃vs:List Value,vs.length=l.length/\(∀v∈vs,v.oneCell'=true)/\K vs:=by
 induction l generalizing K with
 |nil=>exact⟨[],rfl,by simp,h⟩
 |cons x r ih=>obtain⟨v,hv,h⟩:=aKF h;obtain⟨vs,hl,h1,h⟩:=ih h;exact⟨v::vs,by simp[hl],by simpa using⟨hv,h1⟩,h⟩
def fk:js->Type->Type
 |.int _,X=>Int->X
 |.bool,X=>Bool->X
 |.str,X=>List UInt8->X
 |.ptr,X=>Option Addr->X
 |.slc,X=>Option Addr->Nat->Nat->X
 |.raw,X=>Value->X
def gG:List js->Type->Type
 |[],X=>X
 |x::r,X=>fk x (gG r X)
def fk.app{X:Type}:(x:js)->fk x X->Value->(X->Prop)->Prop
 |.int k,f,.int k' n,K=>aq (decide (k=k')) (K (f n)) False
 |.bool,f,.bool b,K=>K (f b)
 |.str,f,.string ⟨⟨l⟩⟩,K=>K (f l)
 |.ptr,f,.pointer p,K=>K (f p)
 |.slc,f,.slice p n c,K=>K (f p n c)
 |.raw,f,v,K=>K (f v)
 |_,_,_,_=>False
def gG.app{X:Type}:(l:List js)->gG l X->List Value->(X->Prop)->Prop
 |[],f,[],K=>K f
 |x::r,f,v::vs,K=>fk.app x f v λg=>gG.app r g vs K
 |_,_,_,_=>False
def fk.aKf{X:Type}{x:js}{f:fk x X}{v:Value}{K K':X->Prop}(h:fk.app x f v K)(hk:∀y,K y->K' y):fk.app x f v K':=by
 cases x<;>cases v<;>simp only[fk.app]at h⊢<;>first|exact h.elim|exact hk _ h|skip
 rename_i k k' n;cases hd:decide (k=k')<;>simp[hd]at h⊢;exact hk _ h
def fk.uq{X:Type}{x:js}{f:fk x X}{v:Value}{K:X->Prop}{Q:Value->Prop}(h:fk.app x f v K)(hq:GI x Q):Q v:=by
 cases x<;>cases v<;>simp only[fk.app]at h<;>first|exact h.elim|skip
 .rename_i k k' n
  cases hd:decide (k=k')<;>simp[hd]at h;obtain rfl:=aQ hd;exact hq n
 all_goals first|exact hq _|exact hq _ _ _|skip
def gG.aKf{X:Type}{l:List js}{f:gG l X}{vs:List Value}{K K':X->Prop}(h:gG.app l f vs K)(hk:∀y,K y->K' y):gG.app l f vs K':=by
 induction l generalizing vs with
 |nil=>cases vs with
  |nil=>exact hk _ h
  |cons v vs=>exact h.elim
 |cons x r ih=>cases vs with
  |nil=>exact h.elim
  |cons v vs=>exact fk.aKf h λg hg=>ih hg
def gG.uq{X:Type}{l:List js}{f:gG l X}{vs:List Value}{K:X->Prop}{Q:List Value->Prop}(h:gG.app l f vs K)(hq:La l Q):Q vs:=by
 induction l generalizing vs Q with
 |nil=>cases vs with
  |nil=>exact hq
  |cons v vs=>exact h.elim
 |cons x r ih=>cases vs with
  |nil=>exact h.elim
  |cons v vs=>
   have h1:=fk.uq h hq;obtain⟨g,hg⟩:∃g,gG.app r g vs K:=by
    clear ih hq h1;cases x<;>cases v<;>simp only[gG.app,fk.app]at h<;>first|exact h.elim|exact⟨_,h⟩|skip
    rename_i k k' n;cases hd:decide (k=k')<;>simp[hd]at h;exact⟨_,h⟩
   exact ih (Q:=λvs=>Q (v::vs)) hg h1
inductive Ty where
 |leaf(x:js)
 |agg(l:List js)
 |fe(n:Nat)
def atW:Value->Ty
 |.agg ⟨cs⟩=>bif Nat.ble cs.length 16 then .agg (cs.map G3)else .fe cs.length
 |v=>.leaf (G3 v)
def HI(P:Program)(t:TypeId):Ty:=match P.info? t with
 |some i=>match i.zero with
  |some z=>atW z
  |none=>.fe 0
 |none=>.fe 0
def MI:Ty->(Value->Prop)->Prop
 |.leaf x,K=>DW x K
 |.agg l,K=>Gy l λvs=>K (.agg ⟨vs⟩)
 |.fe n,K=>∃cs:List Value,cs.length=n/\K (.agg ⟨cs⟩)
def SD{x:Ty}{K:Value->Prop}(h:MI x K):∃v,K v:=by
 cases x with
 |leaf x=>obtain⟨v,_,h⟩:=aKF h;exact⟨v,h⟩
 |agg l=>obtain⟨vs,_,_,h⟩:=Zp h;exact⟨_,h⟩
 |fe n=>obtain⟨cs,_,h⟩:=h;exact⟨_,h⟩
def Uh(P:Program):List TypeId->(List Value->Prop)->Prop
 |[],K=>K []
 |t::r,K=>MI (HI P t) λv=>Uh P r λvs=>K (v::vs)
def ar8{P:Program}{l:List TypeId}{K:List Value->Prop}(h:Uh P l K):∃vs,K vs:=by
 induction l generalizing K with
 |nil=>exact⟨[],h⟩
 |cons t r ih=>obtain⟨v,h⟩:=SD h;obtain⟨vs,h⟩:=ih h;exact⟨v::vs,h⟩
def D5(P:Program)(t:TypeId)(K:Value->Prop):Prop:=match P.underlying t with
 |some (.tuple ⟨es⟩)=>Uh P es λvs=>K (.tuple ⟨vs⟩)
 |_=>MI (HI P t) K
def Lb{P:Program}{t:TypeId}{K:Value->Prop}(h:D5 P t K):∃v,K v:=by
 unfold D5 at h;split at h
 .obtain⟨vs,h⟩:=ar8 h;exact⟨_,h⟩
 .exact SD h
def iU:Ty->Type->Type
 |.leaf x,X=>fk x X
 |.agg l,X=>gG l X
 |.fe _,X=>List Value->X
def dW:List Ty->Type->Type
 |[],X=>X
 |x::r,X=>iU x (dW r X)
def iU.app{X:Type}:(x:Ty)->iU x X->Value->(X->Prop)->Prop
 |.leaf x,f,v,K=>fk.app x f v K
 |.agg l,f,.agg ⟨vs⟩,K=>gG.app l f vs K
 |.fe n,f,.agg ⟨cs⟩,K=>cs.length=n/\K (f cs)
 |_,_,_,_=>False
def dW.app{X:Type}:(l:List Ty)->dW l X->List Value->(X->Prop)->Prop
 |[],f,[],K=>K f
 |x::r,f,v::vs,K=>iU.app x f v λg=>dW.app r g vs K
 |_,_,_,_=>False
def Ui:Ty->(Value->Prop)->Prop
 |.leaf x,K=>GI x K
 |.agg l,K=>La l λvs=>K (.agg ⟨vs⟩)
 |.fe n,K=>∀cs:List Value,cs.length=n->K (.agg ⟨cs⟩)
def Ac:List Ty->(List Value->Prop)->Prop
 |[],K=>K []
 |x::r,K=>Ui x λv=>Ac r λvs=>K (v::vs)
def iU.aKf{X:Type}{x:Ty}{f:iU x X}{v:Value}{K K':X->Prop}(h:iU.app x f v K)(hk:∀y,K y->K' y):iU.app x f v K':=by
 cases x with
 |leaf x=>exact fk.aKf h hk
 |agg l=>cases v<;>first|exact h.elim|exact gG.aKf h hk
 |fe n=>cases v<;>first|exact h.elim|exact⟨h.1,hk _ h.2⟩
def iU.uq{X:Type}{x:Ty}{f:iU x X}{v:Value}{K:X->Prop}{Q:Value->Prop}(h:iU.app x f v K)(hq:Ui x Q):Q v:=by
 cases x with
 |leaf x=>exact fk.uq h hq
 |agg l=>cases v<;>first|exact h.elim|exact gG.uq h hq
 |fe n=>cases v<;>first|exact h.elim|exact hq _ h.1
def fk.BE{X:Type}{x:js}{f:fk x X}{v:Value}{K:X->Prop}(h:fk.app x f v K):∃y,K y:=by
 cases x<;>cases v<;>simp only[fk.app]at h<;>first|exact h.elim|exact⟨_,h⟩|skip
 rename_i k k' n;cases hd:decide (k=k')<;>simp[hd]at h;exact⟨_,h⟩
def gG.BE{X:Type}{l:List js}{f:gG l X}{vs:List Value}{K:X->Prop}(h:gG.app l f vs K):∃y,K y:=by
 induction l generalizing vs with
 |nil=>cases vs with
  |nil=>exact⟨_,h⟩
  |cons v vs=>exact h.elim
 |cons x r ih=>cases vs with
  |nil=>exact h.elim
  |cons v vs=>obtain⟨g,hg⟩:=fk.BE h;exact ih hg
def iU.BE{X:Type}{x:Ty}{f:iU x X}{v:Value}{K:X->Prop}(h:iU.app x f v K):∃y,K y:=by
 cases x with
 |leaf x=>exact fk.BE h
 |agg l=>cases v<;>first|exact h.elim|exact gG.BE h
 |fe n=>cases v<;>first|exact h.elim|exact⟨_,h.2⟩
def dW.aKf{X:Type}{l:List Ty}{f:dW l X}{vs:List Value}{K K':X->Prop}(h:dW.app l f vs K)(hk:∀y,K y->K' y):dW.app l f vs K':=by
 induction l generalizing vs with
 |nil=>cases vs with
  |nil=>exact hk _ h
  |cons v vs=>exact h.elim
 |cons x r ih=>cases vs with
  |nil=>exact h.elim
  |cons v vs=>exact iU.aKf h λg hg=>ih hg
def dW.uq{X:Type}{l:List Ty}{f:dW l X}{vs:List Value}{K:X->Prop}{Q:List Value->Prop}(h:dW.app l f vs K)(hq:Ac l Q):Q vs:=by
 induction l generalizing vs Q with
 |nil=>cases vs with
  |nil=>exact hq
  |cons v vs=>exact h.elim
 |cons x r ih=>cases vs with
  |nil=>exact h.elim
  |cons v vs=>obtain⟨g,hg⟩:=iU.BE h;exact ih (Q:=λvs=>Q (v::vs)) hg (iU.uq h hq)
def tD:Fr->Nat->(Value->Prop)->Prop
 |[],_,_=>False
 |v::_,0,K=>K v
 |_::l,n+1,K=>tD l n K
def su:Fr->Nat->Value->(Fr->Prop)->Prop
 |[],_,_,K=>K []
 |_::l,0,v,K=>K (v::l)
 |x::l,n+1,v,K=>su l n v λl'=>K (x::l')
def xA{l:Fr}{t:Nat}{K:Value->Prop}(h:tD l t K):∃v,l[t]?=some v/\K v:=by
 induction l generalizing t with
 |nil=>exact h.elim
 |cons x l ih=>cases t with
  |zero=>exact⟨x,rfl,h⟩
  |succ t=>exact ih h
def BF{l:Fr}{t:Nat}{v:Value}{K:Fr->Prop}(h:su l t v K):K (l.set t v):=by
 induction l generalizing t K with
 |nil=>exact h
 |cons x l ih=>cases t with
  |zero=>exact h
  |succ t=>exact ih (K:=λl'=>K (x::l')) h
def aIo(l:Fr):Option Nat->Value->(Fr->Prop)->Prop
 |some d,v,K=>su l d v K
 |none,_,K=>K l
def put(l:Fr):Option Nat->Value->Fr
 |some d,v=>l.set d v
 |none,_=>l
def l_{l:Fr}{d:Option Nat}{v:Value}{K:Fr->Prop}(h:aIo l d v K):K (put l d v):=by
 cases d with
 |none=>exact h
 |some d=>exact BF h
def act(l:Fr)(ds:List Deferred):Act:=⟨⟨l⟩,ds⟩
def vS(l:Fr)(ds:List Deferred)(d:Option Nat)(v:Value):(act l ds).put d v=act (put l d v) ds:=by
 cases d with
 |none=>rfl
 |some d=>simp[act,Act.put,put,OV]
def cS(l:Fr):Operand->(Value->Prop)->Prop
 |.tmp t,K=>tD l t K
 |.const v,K=>K v
 |.global g,K=>K (.pointer (some ⟨g,0,none⟩))
 |.func f,K=>K (.func (.func f) #[] #[])
def cO{l:Fr}{ds:List Deferred}{x:Operand}{K:Value->Prop}(h:cS l x K):K ((act l ds).eval x):=by
 cases x with
 |tmp t=>obtain⟨v,hv,h⟩:=xA h;simpa[act,Act.eval,hv]using h
 |const v=>exact h
 |global g=>exact h
 |func f=>exact h
def wg(l:Fr):List Operand->(List Value->Prop)->Prop
 |[],K=>K []
 |x::r,K=>cS l x λv=>wg l r λvs=>K (v::vs)
def aKg{l:Fr}{ds:List Deferred}{xs:List Operand}{K:List Value->Prop}(h:wg l xs K):K (xs.map (act l ds).eval):=by
 induction xs generalizing K with
 |nil=>exact h
 |cons x r ih=>exact ih (cO (ds:=ds) h)
def eG(P:Program)(t:TypeId):Nat:=match P.info? t with
 |some i=>i.size
 |none=>0
def je(P:Program)(t:TypeId):Bool:=match P.info? t with
 |some _=>true
 |none=>false
def acq(P:Program)(t:TypeId):List js:=match P.info? t with
 |some i=>match i.zero with
  |some (.agg ⟨cs⟩)=>cs.map G3
  |some v=>[G3 v]
  |none=>[]
 |none=>[]
def ae7(P:Program)(t:TypeId):js:=match P.info? t with
 |some i=>match i.zero with
  |some v=>G3 v
  |none=>.raw
 |none=>.raw
def Cc(Rd:Addr->Value->Prop)(w:World):Prop:=∀a u,Rd a u->w.cell? a=some u
def p_{P:Program}{t:TypeId}(h:je P t=true)(w:World):(sizeOf t).run P w=.ok (eG P t) w:=by
 unfold je at h;unfold eG;cases hi:P.info? t with
 |none=>simp[hi]at h
 |some i=>simp[sizeOf,typeInfo,hi]
def yy(v:Value)(K:Addr->Prop):Prop:=match v with
 |.pointer p=>aE p K
 |_=>False
def BG{v:Value}{K:Addr->Prop}(h:yy v K):∃a,v=.pointer (some a)/\K a:=by
 cases v<;>simp only[yy]at h<;>first|exact h.elim|skip
 obtain⟨a,rfl,h⟩:=aKd h;exact⟨a,rfl,h⟩
def Ej(v:Value)(K:IntKind->Int->Prop):Prop:=match v with
 |.int k n=>K k n
 |_=>False
def Ln{v:Value}{K:IntKind->Int->Prop}(h:Ej v K):∃k n,v=.int k n/\K k n:=by cases v<;>simp only[Ej]at h<;>first|exact h.elim|exact⟨_,_,rfl,h⟩
def Mf(Rd:Addr->Value->Prop)(a:Addr):Nat->List Value->Prop->Prop
 |_,[],K=>K
 |i,v::r,K=>Rd (a.add i) v/\Mf Rd a (i+1) r K
def ar9{Rd:Addr->Value->Prop}{a:Addr}{vs:List Value}:∀{i:Nat} {K:Prop},Mf Rd a i vs K->(∀j u,vs[j]?=some u->Rd (a.add (i+j)) u)/\K:=by
 induction vs with
 |nil=>intro i K h;exact⟨by simp,h⟩
 |cons v r ih=>
  intro i K h;obtain⟨h0,h⟩:=h;obtain⟨h1,h2⟩:=ih h;refine⟨λj u hj=>?_,h2⟩;cases j with
  |zero=>simp at hj;subst hj;exact h0
  |succ j=>have:=h1 j u (by simpa using hj);rwa[FX,Nat.add_comm 1 j]at this
def aKL(P:Program)(t:TypeId)(a:Addr)(Rd:Addr->Value->Prop)(K:Value->Prop):Prop:=
 match P.underlying t with
 |some (.struct _)|some (.array _ _)=>aq (je P t)
   (aq (Nat.ble (eG P t) 16)
    (Gy (acq P t) λvs=>aq (Nat.beq vs.length (eG P t)) (Mf Rd a 0 vs (K (.agg ⟨vs⟩))) False)
    (∃cs:List Value,cs.length=eG P t/\(∀j u,cs[j]?=some u->Rd (a.add j) u)/\K (.agg ⟨cs⟩))) False
 |some _=>DW (ae7 P t) λv=>Rd a v/\K v
 |none=>False
def AA:TypeDesc->Bool
 |.struct _|.array _ _=>true
 |_=>false
def DG{P:Program}{t:TypeId}{d:TypeDesc}(h:P.underlying t=some d)(w:World):(isAgg t).run P w=.ok (AA d) w:=by unfold isAgg;rw[Sem.run_bind,run_underlying h w];cases d<;>rfl
def ZJ{P:Program}{t:TypeId}{d:TypeDesc}(h:P.underlying t=some d)(hd:AA d=true)(hi:je P t=true){w:World}{a:Addr}{cs:List Value}
  (hl:cs.length=eG P t)(hc:∀j u,cs[j]?=some u->w.cell? (a.add j)=some u):(loadVar t a).run P w=.ok (.agg ⟨cs⟩) w:=by
 have h1:=DG h w;rw[hd]at h1;have h2:=run_loadCells_list (P:=P) w a cs hc;rw[hl]at h2;simp only[loadVar,Sem.run_bind,h1,Result.andThen_ok,pq,p_ hi,h2,Sem.run_pure]
def abe{P:Program}{t:TypeId}{a:Addr}{Rd:Addr->Value->Prop}{K:Value->Prop}(h:aKL P t a Rd K):
  ∃v,K v/\∀w,Cc Rd w->(loadVar t a).run P w=.ok v w:=by
 unfold aKL at h;have agg:∀d,P.underlying t=some d->AA d=true->aq (je P t)
   (aq (Nat.ble (eG P t) 16)
    (Gy (acq P t) λvs=>aq (Nat.beq vs.length (eG P t)) (Mf Rd a 0 vs (K (.agg ⟨vs⟩))) False)
    (∃cs:List Value,cs.length=eG P t/\(∀j u,cs[j]?=some u->Rd (a.add j) u)/\K (.agg ⟨cs⟩))) False->∃v,K v/\∀w,Cc Rd w->(loadVar t a).run P w=.ok v w:=by
  intro d hu hd h;rw[aHL]at h;have hi:je P t=true:=by
   cases hh:je P t with
   |true=>rfl
   |false=>exact(h.2 hh).elim
  have h:=h.1 hi;rw[aHL]at h;cases hb:Nat.ble (eG P t) 16 with
  |true=>
   obtain⟨vs,_,_,h⟩:=Zp (h.1 hb);rw[aHL]at h;cases hl:Nat.beq vs.length (eG P t)with
   |false=>exact(h.2 hl).elim
   |true=>obtain⟨h1,h2⟩:=ar9 (h.1 hl);exact⟨_,h2,λw hw=>ZJ hu hd hi (oz hl) λj u hj=>hw _ _ (by simpa using h1 j u hj)⟩
  |false=>obtain⟨cs,h1,h2,h3⟩:=h.2 hb;exact⟨_,h3,λw hw=>ZJ hu hd hi h1 λj u hj=>hw _ _ (h2 j u hj)⟩
 split at h
 .rename_i hu;exact agg _ hu rfl h
 .rename_i hu;exact agg _ hu rfl h
 .rename_i d hs ha hu
  obtain⟨v,_,h1,h2⟩:=aKF h;refine⟨v,h2,λw hw=>?_⟩;have h3:=DG hu w;have h4:AA d=false:=by
   cases d<;>first|rfl|skip
   .rename_i n e;exact(ha n e rfl).elim
   .rename_i fs;exact(hs fs rfl).elim
  rw[h4]at h3;simp only[loadVar,Sem.run_bind,h3,Result.andThen_ok,l9,jq,run_load,hw _ _ h1]
 .exact h.elim
def UI(op:BinOp)(a b:List UInt8)(K:Value->Prop):Prop:=match op with
 |.add=>a.length+b.length<=9223372036854775807/\K (.string (S (a++b)))
 |.eql=>K (.bool (decide (a=b)))
 |.neq=>K (.bool (!decide (a=b)))
 |.lss=>K (.bool (Op.bytesLess a b))
 |.geq=>K (.bool (!Op.bytesLess a b))
 |.leq=>K (.bool (Op.bytesLess a b||decide (a=b)))
 |.gtr=>K (.bool (!(Op.bytesLess a b||decide (a=b))))
 |_=>False
def UJ(op:BinOp)(k:IntKind)(a b:Int)(K:Value->Prop):Prop:=match op with
 |.add=>K (.int k (k.wrap (a+b)))
 |.sub=>K (.int k (k.wrap (a-b)))
 |.mul=>K (.int k (k.wrap (a*b)))
 |.quo=>b≠0/\K (.int k (k.wrap (a.tdiv b)))
 |.rem=>b≠0/\K (.int k (a.tmod b))
 |.and=>K (.int k (bits .and k a b))
 |.or=>K (.int k (bits .or k a b))
 |.xor=>K (.int k (bits .xor k a b))
 |.andNot=>K (.int k (bits .andNot k a b))
 |.eql=>K (.bool (decide (a=b)))
 |.neq=>K (.bool (!decide (a=b)))
 |.lss=>K (.bool (decide (a<b)))
 |.leq=>K (.bool (decide (a<=b)))
 |.gtr=>K (.bool (decide (b<a)))
 |.geq=>K (.bool (decide (b<=a)))
 |_=>False
def ec{c:Bool}{A:Prop}(h:aq c A False):c=true/\A:=by
 cases c
 .exact h.elim
 .exact⟨rfl,h⟩
def S9(P:Program)(t:TypeId)(x y:Value)(K:Bool->Prop):Prop:=match P.underlying t with
 |some (.int _)=>match x,y with
  |.int k a,.int k' b=>aq (decide (k=k')) (K (decide (a=b))) False
  |_,_=>False
 |some .string=>match x,y with
  |.string ⟨⟨a⟩⟩,.string ⟨⟨b⟩⟩=>K (decide (a=b))
  |_,_=>False
 |some .bool=>match x,y with
  |.bool a,.bool b=>K (decide (a=b))
  |_,_=>False
 |_=>False
def Sc(P:Program)(xs ys:List Value):List Field->(Bool->Prop)->Prop
 |[],K=>K true
 |f::r,K=>aq (decide (f.name≠ "_")) (tD xs f.offset λx=>tD ys f.offset λy=>S9 P f.type x y λb=>Sc P xs ys r λb'=>K (b&&b')) False
def abf(P:Program)(t:TypeId):Bool:=match P.underlying t with
 |some (.struct _)=>true
 |_=>false
def xB(a:List UInt8):(S a).toList=a:=ByteArray.toList_mk a
def apa{P:Program}{t:TypeId}{x y:Value}{K:Bool->Prop}(h:S9 P t x y K):
  ∃b,K b/\(∀d w,(Op.equalIn (d+1) t x y).run P w=.ok b w)/\∀(cs:Array Value) (off:Nat) (v:Value) (w:World),cs[off]?=some v->(part t cs off).run P w=.ok v w:=by
 have plain:∀{d:TypeDesc},P.underlying t=some d->AA d=false->∀(cs:Array Value) (off:Nat) (v:Value) (w:World),cs[off]?=some v->(part t cs off).run P w=.ok v w:=by intro d hu hd cs off v w hv;have h3:=DG hu w;rw[hd]at h3;simp only[part,Sem.run_bind,h3,Result.andThen_ok,l9,jq,hv,Sem.run_pure]
 unfold S9 at h;split at h
 .rename_i k0 hu
  split at h
  .rename_i k a k' b
   rw[aHL]at h;cases hd:decide (k=k')with
   |false=>exact(h.2 hd).elim
   |true=>obtain rfl:=aQ hd;exact⟨_,h.1 hd,λd w=>by rw[run_equalIn_int w d t _ _ _ _ hu];rfl,plain hu rfl⟩
  .exact h.elim
 .rename_i hu
  split at h
  .rename_i a b
   refine⟨_,h,λd w=>?_,plain hu rfl⟩;have:=run_equalIn_string w d t (S a) (S b) hu;rw[xB,xB]at this;rw[show(Value.string ⟨⟨a⟩⟩)=.string (S a)from rfl,show(Value.string ⟨⟨b⟩⟩)=.string (S b)from rfl,this];congr 1;rw[aIV];simp
  .exact h.elim
 .rename_i hu
  split at h
  .rename_i a b
   refine⟨_,h,λd w=>?_,plain hu rfl⟩;rw[run_equalIn_bool' w d t a b hu];rfl
  .exact h.elim
 .exact h.elim
def Ze{P:Program}{xs ys:List Value}:∀{fs:List Field} {K:Bool->Prop},Sc P xs ys fs K->∃b,K b/\∀d w,(Op.eqFields (d+1) ⟨xs⟩ ⟨ys⟩ fs).run P w=.ok b w
 |[],K,h=>⟨true,h,λd w=>by simp[Op.eqFields]⟩
 |f::r,K,h=>by
  obtain⟨hn,h⟩:=ec h;obtain⟨x,hx,h⟩:=xA h;obtain⟨y,hy,h⟩:=xA h;obtain⟨b,h,he,hp⟩:=apa h;obtain⟨b',hk,hr⟩:=Ze h;refine⟨b&&b',hk,λd w=>?_⟩;have hn:=aQ hn;have h1:=hp ⟨xs⟩ f.offset x w (by simpa using hx);have h2:=hp ⟨ys⟩ f.offset y w (by simpa using hy);simp only[Op.eqFields,aN hn,Sem.run_bind,h1,h2,Result.andThen_ok,he d w];cases b with
  |true=>simpa using hr d w
  |false=>simp
def adr(P:Program)(op:BinOp)(t:TypeId)(xs ys:List Value)(K:Value->Prop):Prop:=
 aq (abf P t&& !P.stoodInHeld t&& !P.eqGuardType P.depth t) (Sc P xs ys (P.fieldsOf t).toList λb=>match op with
  |.eql=>K (.bool b)
  |.neq=>K (.bool (!b))
  |_=>False) False
def ZK{P:Program}{op:BinOp}{t:TypeId}{xs ys:List Value}{K:Value->Prop}(h:adr P op t xs ys K):
  P.eqGuardType P.depth t=false/\∃v,K v/\∀w,(binOp op t (.agg ⟨xs⟩) (.agg ⟨ys⟩)).run P w=.ok v w:=by
 obtain⟨hb,h⟩:=ec h;simp only[e_,aJ3]at hb;obtain⟨⟨h1,h2⟩,h3⟩:=hb;obtain⟨b,hk,hr⟩:=Ze h;have ht:P.underlying t=some (.struct (P.fieldsOf t)):=by
  unfold abf at h1;unfold Program.fieldsOf;split at h1
  .rename_i fs hu
   rw[hu]
  .cases h1
 have heq:∀w,(Op.equalIn 10000 t (.agg ⟨xs⟩) (.agg ⟨ys⟩)).run P w=.ok b w:=λw=>by rw[show(10000:Nat)=9999+1 from rfl,run_equalIn_struct w 9999 t _ _ ht h2];exact hr 9998 w
 refine⟨h3,?_⟩;split at hk
 .exact⟨_,hk,λw=>by rw[run_eql_struct,heq w];rfl⟩
 .exact⟨_,hk,λw=>by rw[run_neq_struct,heq w];rfl⟩
 .exact hk.elim
def MJ(P:Program)(te:TypeId)(op:BinOp)(p q:Option Addr)(K:Bool->Prop):Prop:=match q with
 |none=>match op with
  |.eql=>K p.isNone
  |.neq=>K (!p.isNone)
  |_=>False
 |some b=>je P te=true/\p=some b/\match op with
  |.eql=>K true
  |.neq=>K false
  |_=>False
def atX{P:Program}{te t:TypeId}(hu:P.underlying t=some (.pointer te)){op:BinOp}{p q:Option Addr}{K:Bool->Prop}(h:MJ P te op p q K):
  ∃b,K b/\∀w,(binOp op t (.pointer p) (.pointer q)).run P w=.ok (.bool b) w:=by
 cases q with
 |none=>
  have hd:∀d w,(Op.equalIn (d+1) t (.pointer p) (.pointer none)).run P w=.ok p.isNone w:=by intro d w;cases p<;>simp[Op.equalIn,run_underlying hu]
  have hq:∀w,(Op.equal t (.pointer p) (.pointer none)).run P w=.ok p.isNone w:=hd 9999;cases op<;>simp only[MJ]at h<;>first|exact h.elim|exact⟨_,h,λw=>by simp[binOp,hq w]⟩
 |some b=>
  obtain⟨hi,rfl,h⟩:=h;obtain⟨j,hj⟩:∃j,P.info? te=some j:=by
   unfold je at hi;cases hj:P.info? te with
   |none=>rw[hj]at hi;cases hi
   |some j=>exact⟨j,rfl⟩
  cases op<;>simp only at h<;>first|exact h.elim|skip
  .refine⟨_,h,λw=>?_⟩
   have h:∀d:Nat,(Op.equalIn (d+1) t (.pointer (some b)) (.pointer (some b))).run P w=.ok true w:=λd=>by simp[Op.equalIn,run_underlying hu,sizeOf,typeInfo,hj,run_sameAddr_same]
   simp only[binOp];simp[Op.equal,Op.maxDepth,h 9999]
  .exact⟨_,h,λw=>Lib.run_neq_ptr_same w b hu hj⟩
def Mh(P:Program)(op:BinOp)(t:TypeId)(x y:Value)(K:Value->Prop):Prop:=
 match x,y with
 |.int k a,.int k' b=>match op with
  |.shl=>0<=b/\K (.int k (k.wrap (a*2^(min b.toNat k.bits))))
  |.shr=>0<=b/\K (.int k (a.fdiv (2^(min b.toNat k.bits))))
  |op=>aq (decide (k=k')) (UJ op k a b K) False
 |.string ⟨⟨a⟩⟩,.string ⟨⟨b⟩⟩=>UI op a b K
 |.bool a,.bool b=>match P.underlying t with
  |some .bool=>match op with
   |.eql=>K (.bool (decide (a=b)))
   |.neq=>K (.bool (!decide (a=b)))
   |_=>False
  |_=>False
 |.pointer p,.pointer q=>match P.underlying t with
  |some (.pointer te)=>MJ P te op p q λb=>K (.bool b)
  |_=>False
 |.slice p _ _,.slice none _ _=>match P.underlying t with
  |some (.slice _)=>match op with
   |.eql=>K (.bool p.isNone)
   |.neq=>K (.bool (!p.isNone))
   |_=>False
  |_=>False
 |.map p,.map none=>match P.underlying t with
  |some (.map _ _)=>match op with
   |.eql=>K (.bool p.isNone)
   |.neq=>K (.bool (!p.isNone))
   |_=>False
  |_=>False
 |.agg ⟨xs⟩,.agg ⟨ys⟩=>adr P op t xs ys K
 |_,_=>False
def atY{P:Program}{op:BinOp}{a b:List UInt8}{K:Value->Prop}(h:UI op a b K):∃v,K v/\∀w,(Op.stringOp op (S a) (S b)).run P w=.ok v w:=by
 have he:((S a).toList==(S b).toList)=decide (a=b):=by rw[xB,xB,aIV];simp
 have hb:Op.bytesLess (S a).toList (S b).toList=Op.bytesLess a b:=by rw[xB,xB]
 cases op<;>simp only[UI]at h<;>first|exact h.elim|skip
 .refine⟨_,h.2,λw=>?_⟩
  have:=run_string_add_sum (P:=P) w (S a) (S b) (by simpa[ByteArray.size]using h.1);rw[this];congr 2
 all_goals(refine⟨_,h,λw=>?_⟩;simp only[Op.stringOp,he,hb,Sem.run_pure])
def atZ{P:Program}{op:BinOp}{t:TypeId}{k:IntKind}{a b:Int}{K:Value->Prop}(hs:op≠.shl)(hr:op≠.shr)(h:UJ op k a b K):∃v,K v/\∀w,(binOp op t (.int k a) (.int k b)).run P w=.ok v w:=by
 cases op<;>simp only[UJ]at h<;>first|exact h.elim|exact absurd rfl hs|exact absurd rfl hr|skip
 all_goals first
  |(refine⟨_,h,λw=>?_⟩;first
    |(simp only[binOp_add,binOp_sub,binOp_mul,Op.intArith,Sem.run_pure];done)
    |(simp only[binOp_and,binOp_or,binOp_xor,binOp_andNot,intBits_and,intBits_or,intBits_xor,intBits_andNot,Sem.run_pure];done)
    |(simp only[binOp_lss,binOp_leq,binOp_gtr,binOp_geq,Sem.run_pure,gt_iff_lt,ge_iff_le];done)
    |(simp only[binOp_eql,binOp_neq,Sem.run_pure];rfl))
  |(refine⟨_,h.2,λw=>?_⟩;simp[binOp_quo,binOp_rem,Op.intDiv,h.1])
def ar_{P:Program}{op:BinOp}{t:TypeId}{x y:Value}{K:Value->Prop}(h:Mh P op t x y K):∃v,K v/\∀w,(binOp op t x y).run P w=.ok v w:=by
 unfold Mh at h;split at h
 .rename_i k a k' b
  split at h
  .exact⟨_,h.2,λw=>by simp[binOp_shl,Op.shift,show¬b<0 by omega]⟩
  .exact⟨_,h.2,λw=>by simp[binOp_shr,Op.shift,show¬b<0 by omega]⟩
  .rename_i hs hr
   rw[aHL]at h;cases hd:decide (k=k')with
   |false=>exact(h.2 hd).elim
   |true=>obtain rfl:=aQ hd;exact atZ (λe=>hs e) (λe=>hr e) (h.1 hd)
 .rename_i a b
  obtain⟨v,h1,h2⟩:=atY (P:=P) h;refine⟨v,h1,λw=>?_⟩;have:=h2 w;cases op<;>simpa[binOp]using this
 .split at h
  .rename_i hu
   split at h<;>first|exact h.elim|skip
   .exact⟨_,h,λw=>by rw[run_eql_bool w t _ _ hu];rfl⟩
   .exact⟨_,h,λw=>by rw[run_neq_bool w t _ _ hu];rfl⟩
  .exact h.elim
 .rename_i p q
  split at h
  .rename_i e hu
   obtain⟨b,hk,hr⟩:=atX hu h;exact⟨_,hk,hr⟩
  .exact h.elim
 .rename_i p n c n' c'
  split at h
  .rename_i e hu
   have hd:∀d w,(Op.equalIn (d+1) t (.slice p n c) (.slice none n' c')).run P w=.ok p.isNone w:=by intro d w;cases p<;>simp[Op.equalIn,run_underlying hu]
   have hq:∀w,(Op.equal t (.slice p n c) (.slice none n' c')).run P w=.ok p.isNone w:=hd 9999;split at h<;>first|exact h.elim|skip
   .exact⟨_,h,λw=>by simp[binOp,hq w]⟩
   .exact⟨_,h,λw=>by simp[binOp,hq w]⟩
  .exact h.elim
 .rename_i p
  split at h
  .rename_i k e hu
   have hd:∀d w,(Op.equalIn (d+1) t (.map p) (.map none)).run P w=.ok p.isNone w:=by intro d w;cases p<;>simp[Op.equalIn,run_underlying hu]
   have hq:∀w,(Op.equal t (.map p) (.map none)).run P w=.ok p.isNone w:=hd 9999;split at h<;>first|exact h.elim|skip
   .exact⟨_,h,λw=>by simp[binOp,hq w]⟩
   .exact⟨_,h,λw=>by simp[binOp,hq w]⟩
  .exact h.elim
 .exact(ZK h).2
 .exact h.elim
def D6(op:BinOp)(v:Value)(K:Bool->Prop):Prop:=match v with
 |.nilIface=>(match op with
  |.eql=>K true
  |.neq=>K false
  |_=>False)
 |.iface _ _=>(match op with
  |.eql=>K false
  |.neq=>K true
  |_=>False)
 |_=>False
def D7(op:BinOp)(ty:TypeId)(k:IntKind)(n:Int)(v:Value)(K:Bool->Prop):Prop:=match v with
 |.nilIface=>(match op with
  |.eql=>K false
  |.neq=>K true
  |_=>False)
 |.iface tx (.int k' m)=>tx=ty/\k'=k/\(match op with
  |.eql=>K (decide (m=n))
  |.neq=>K (!decide (m=n))
  |_=>False)
 |_=>False
def DX(P:Program)(t:TypeId):Bool:=match P.underlying t with
 |some (.interface _)=>true
 |_=>false
def Uj(P:Program)(t:TypeId):Bool:=match P.info? t with
 |some i=>i.comparable
 |none=>false
def UK(P:Program)(t:TypeId):Bool:=match P.underlying t with
 |some (.int _)=>true
 |_=>false
def aak{P:Program}{t:TypeId}(h:DX P t=true):∃ms,P.underlying t=some (.interface ms):=by
 unfold DX at h;split at h
 .exact⟨_,by assumption⟩
 .cases h
def asa{P:Program}{op:BinOp}{t:TypeId}{v:Value}{K:Bool->Prop}(ht:DX P t=true)(h:D6 op v K):∃b,K b/\∀w,(binOp op t v .nilIface).run P w=.ok (.bool b) w:=by
 obtain⟨ms,hu⟩:=aak ht;have hi:P.isIface t=true:=by simp[Program.isIface,hu]
 unfold D6 at h;split at h
 .split at h
  .exact⟨_,h,λw=>run_eql_nil_nil_at w t hi⟩
  .exact⟨_,h,λw=>run_neq_nil_nil_at w t hi⟩
  .exact h.elim
 .split at h
  .exact⟨_,h,λw=>run_eql_iface_nil w t hi _ _⟩
  .exact⟨_,h,λw=>run_neq_iface_nil w t hi _ _⟩
  .exact h.elim
 .exact h.elim
def asb{P:Program}{op:BinOp}{t ty:TypeId}{k:IntKind}{n:Int}{v:Value}{K:Bool->Prop}(ht:DX P t=true)(hc:Uj P ty=true)(hn:UK P ty=true)(h:D7 op ty k n v K):
  ∃b,K b/\∀w,(binOp op t v (.iface ty (.int k n))).run P w=.ok (.bool b) w:=by
 obtain⟨ms,hu⟩:=aak ht;have Ie:(P.info? ty).map (·.comparable)=some true:=by
  unfold Uj at hc;split at hc
  .rename_i i hi
   rw[hi];simpa using hc
  .cases hc
 obtain⟨q,hq⟩:∃q,P.underlying ty=some (.int q):=by
  unfold UK at hn;split at hn
  .exact⟨_,by assumption⟩
  .cases hn
 unfold D7 at h;split at h
 .split at h
  .exact⟨_,h,λw=>run_eql_iface_nil_left w ty _ hu⟩
  .refine⟨_,h,λw=>?_⟩
   have h:∀d:Nat,(Op.equalIn (d+1) t .nilIface (.iface ty (.int k n))).run P w=.ok false w:=λd=>by simp[Op.equalIn,run_underlying hu]
   simp only[binOp];simp[Op.equal,Op.maxDepth,h 9999]
  .exact h.elim
 .rename_i tx k' m
  obtain⟨rfl,rfl,h⟩:=h;split at h
  .refine⟨_,h,λw=>?_⟩
   rw[Lib.run_eql_iface_int w _ _ hu Ie hq];rfl
  .refine⟨_,h,λw=>?_⟩
   cases hi:P.info? tx with
   |none=>simp[hi]at Ie
   |some i=>
    have hcc:i.comparable=true:=by simpa[hi]using Ie
    have h:∀d:Nat,(Op.equalIn (d+2) t (.iface tx (.int k' m)) (.iface tx (.int k' n))).run P w=.ok (m==n) w:=λd=>by simp[Op.equalIn,run_underlying hu,run_underlying hq,typeInfo,hi,hcc]
    simp only[binOp];simp[Op.equal,Op.maxDepth,h 9998];rfl
  .exact h.elim
 .exact h.elim
def MK(P:Program)(op:BinOp)(t:TypeId)(x y:Value)(K:Value->Prop):Prop:=match y with
 |.iface ty (.int k n)=>aq (DX P t&&Uj P ty&&UK P ty) (D7 op ty k n x λb=>K (.bool b)) False
 |y=>Mh P op t x y K
def at0{P:Program}{op:BinOp}{t:TypeId}{x y:Value}{K:Value->Prop}(h:MK P op t x y K):∃v,K v/\∀w,(binOp op t x y).run P w=.ok v w:=by
 unfold MK at h;split at h
 .obtain⟨hb,h⟩:=ec h
  simp only[e_]at hb;obtain⟨b,hk,hr⟩:=asb hb.1.1 hb.1.2 hb.2 h;exact⟨_,hk,hr⟩
 .exact ar_ h
def VG(op:UnOp)(x:Value)(K:Value->Prop):Prop:=match op,x with
 |.not,.bool b=>K (.bool (!b))
 |.neg,.int k n=>K (.int k (k.wrap (0-n)))
 |.xor,.int k n=>K (.int k (bits .xor k (bif k.signed then-1 else k.max) n))
 |_,_=>False
def avZ{P:Program}{op:UnOp}{x:Value}{K:Value->Prop}(h:VG op x K):∃v,K v/\∀w,(Op.unary op x).run P w=.ok v w:=by
 unfold VG at h;split at h
 .exact⟨_,h,λw=>rfl⟩
 .exact⟨_,h,λw=>rfl⟩
 .rename_i k n
  refine⟨_,h,λw=>?_⟩;cases hk:k.signed<;>simp[Op.unary,hk,intBits_xor]
 .exact h.elim
def HJ(P:Program)(e:TypeId):Bool:=match P.underlying e with
 |some (.int .u8)=>true
 |_=>false
def acr{P:Program}{e:TypeId}(h:HJ P e=true):P.underlying e=some (.int .u8):=by
 unfold HJ at h;split at h;·assumption
 .cases h
def aJG(Rd:Addr->Value->Prop)(p:Option Addr)(n:Nat)(bs:List UInt8):Prop:=
 bs.length=n/\(0<n->∃a,p=some a/\∀(j:Nat) (b:UInt8),bs[j]?=some b->Rd (a.add j) (.int .u8 b.toNat))
def D8(P:Program)(src dst:TypeId)(x:Value)(Rd:Addr->Value->Prop)(K:Value->Prop):Prop:=match x with
 |.int _ n=>match P.underlying src,P.underlying dst with
  |some _,some (.int k)=>K (.int k (k.wrap n))
  |_,_=>False
 |.string ⟨⟨s⟩⟩=>match P.underlying src,P.underlying dst with
  |some _,some .string=>K (.string (S s))
  |_,_=>False
 |.slice p n _=>match P.underlying src,P.underlying dst with
  |some (.slice e),some .string=>aq (HJ P e) (∃bs:List UInt8,aJG Rd p n bs/\K (.string (S bs))) False
  |_,_=>False
 |_=>False
def foldl_push(bs:List UInt8):∀acc:List UInt8,(bs.map λb=>(b.toNat:Int)).foldl (λr n=>r.push (UInt8.ofNat n.toNat)) (S acc)=S (acc++bs):=by
 induction bs with
 |nil=>intro acc;simp
 |cons b r ih=>
  intro acc;have hb:UInt8.ofNat ((b.toNat:Int)).toNat=b:=by simp
  have hp:(S acc).push b=S (acc++[b]):=by show ByteArray.mk ((Array.mk acc).push b)=_;simp
  simp only[gi,aJ4,hb,hp,ih];simp
def apb{P:Program}{w:World}{p:Option Addr}{n c:Nat}{bs:List UInt8}(h:aJG (λa v=>w.cell? a=some v) p n bs):
  (Conv.bytesToString (.slice p n c)).run P w=.ok (.string (S bs)) w:=by
 obtain⟨hl,hp⟩:=h;cases p with
 |none=>
  have:n=0:=by
   rcases aIi n with h|h
   .exact h
   .obtain⟨a,h,_⟩:=hp h;cases h
  subst this;obtain rfl:=mC hl;rfl
 |some a=>
  have hc:∀j v,(bs.map λb=>Value.int .u8 b.toNat)[j]?=some v->w.cell? (a.add j)=some v:=by
   intro j v hj;rcases aIi n with h0|h0
   .subst h0;obtain rfl:=mC hl;simp at hj
   .obtain⟨a',ha,hc⟩:=hp h0
    obtain rfl:=bO ha;simp only[vF,O_]at hj;obtain⟨b,hb,rfl⟩:=hj;exact hc j b hb
  have h1:=run_loadCells_list (P:=P) w a _ hc;rw[ke,hl]at h1;have h2:(bs.map λb=>Value.int .u8 b.toNat)=(bs.map λb=>(b.toNat:Int)).map (Value.int .u8):=by simp
  rw[h2]at h1;rw[run_bytesToString w a n c _ h1];have:=foldl_push bs [];simp only[Dp]at this;exact fT (λs=>Result.ok (Value.string s) w) this
def abg{P:Program}{src dst:TypeId}{x:Value}{Rd:Addr->Value->Prop}{K:Value->Prop}(h:D8 P src dst x Rd K):
  ∃v,K v/\∀w,Cc Rd w->(convert src dst x).run P w=.ok v w:=by
 unfold D8 at h;split at h
 .split at h
  .rename_i hs hd
   refine⟨_,h,λw _=>?_⟩;simp[convert,run_underlying hs,run_underlying hd,Conv.intToInt]
  .exact h.elim
 .split at h
  .rename_i hs hd
   refine⟨_,h,λw _=>?_⟩;simp[convert,run_underlying hs,run_underlying hd]
  .exact h.elim
 .split at h
  .rename_i hs hd
   rw[aHL]at h;cases hu:HJ P _ with
   |false=>exact(h.2 hu).elim
   |true=>obtain⟨bs,hb,hk⟩:=h.1 hu;refine⟨_,hk,λw hw=>?_⟩;rw[run_convert_bytes_string w src dst _ _ _ _ hs (acr hu) hd];exact apb ⟨hb.1,λh0=>by obtain⟨a,ha,hc⟩:=hb.2 h0;exact⟨a,ha,λj b hj=>hw _ _ (hc j b hj)⟩⟩
  .exact h.elim
 .exact h.elim
def Uk(s:List UInt8)(lo hi:Option Value)(K:Value->Prop):Prop:=match lo,hi with
 |none,none=>K (.string (S s))
 |some (.int _ i),none=>0<=i/\i<=s.length/\K (.string (S (s.drop i.toNat)))
 |none,some (.int _ j)=>0<=j/\j<=s.length/\K (.string (S (s.take j.toNat)))
 |some (.int _ i),some (.int _ j)=>0<=i/\i<=j/\j<=s.length/\K (.string (S ((s.drop i.toNat).take (j.toNat-i.toNat))))
 |_,_=>False
def Mi(p:Option Addr)(n c sz:Nat)(lo hi:Option Value)(K:Value->Prop):Prop:=match lo,hi with
 |none,none=>K (.slice p n c)
 |some (.int _ i),none=>0<=i/\i<=n/\K (.slice (if c=i.toNat then p else p.map (·.add (i.toNat*sz))) (n-i.toNat) (c-i.toNat))
 |none,some (.int _ j)=>0<=j/\j<=c/\K (.slice p j.toNat c)
 |some (.int _ i),some (.int _ j)=>0<=i/\i<=j/\j<=c/\K (.slice (if c=i.toNat then p else p.map (·.add (i.toNat*sz))) (j.toNat-i.toNat) (c-i.toNat))
 |_,_=>False
def BP(P:Program)(t:TypeId)(x:Value)(lo hi:Option Value)(K:Value->Prop):Prop:=match x with
 |.string ⟨⟨s⟩⟩=>match P.underlying t with
  |some .string=>Uk s lo hi K
  |_=>False
 |.slice p n c=>match P.underlying t with
  |some (.slice e)=>aq (je P e) (Mi p n c (eG P e) lo hi K) False
  |_=>False
 |.pointer p=>match P.underlying t with
  |some (.array n e)=>aq (je P e) (aE p λa=>Mi (some a) n n (eG P e) lo hi K) False
  |_=>False
 |_=>False
def BA{P:Program}{k:IntKind}{i:Int}{y:Nat}{code:BoundsCode}(h0:0<=i)(h1:i<=y)(w:World):(Instr.sliceBound (.int k i) y code).run P w=.ok i.toNat w:=run_sliceBound w k i y code h0 h1
def ZL(P:Program)(b:Bool)(n c:Nat)(w:World):(Instr.sliceBounds b n c none none none).run P w=.ok (0,n,c) w:=by simp[Instr.sliceBounds]
def abh{P:Program}{k:IntKind}{i:Int}(b:Bool){n:Nat}(c:Nat)(h0:0<=i)(h1:i<=n)(w:World):(Instr.sliceBounds b n c (some (.int k i)) none none).run P w=.ok (i.toNat,n,c) w:=by simp[Instr.sliceBounds,BA h0 h1]
def abi{P:Program}{k:IntKind}{j:Int}(b:Bool)(n:Nat){c:Nat}(h0:0<=j)(h1:j<=c)(w:World):(Instr.sliceBounds b n c none (some (.int k j)) none).run P w=.ok (0,j.toNat,c) w:=by simp[Instr.sliceBounds,BA h0 h1]
def ZM{P:Program}{k k':IntKind}{i j:Int}(b:Bool)(n:Nat){c:Nat}(h0:0<=i)(h1:i<=j)(h2:j<=c)(w:World):(Instr.sliceBounds b n c (some (.int k i)) (some (.int k' j)) none).run P w=.ok (i.toNat,j.toNat,c) w:=by
 have e:((j.toNat:Nat):Int)=j:=Int.toNat_of_nonneg (by omega);have hj:0<=j:=by omega
 simp[Instr.sliceBounds,BA hj h2,BA h0 (show i<=((j.toNat:Nat):Int) by omega)]
def asc{P:Program}{t:TypeId}{s:List UInt8}{lo hi:Option Value}{K:Value->Prop}(ht:P.underlying t=some .string)(h:Uk s lo hi K):
  ∃v,K v/\∀w,(Instr.sliceAt t (.string (S s)) lo hi none).run P w=.ok v w:=by
 have ex:∀a b,(S s).extract a b=S ((s.drop a).take (b-a)):=λa b=>ByteArray.extract_mk s a b;have fin:∀a b w,(Instr.sliceBounds false s.length s.length lo hi none).run P w=.ok (a,b,s.length) w->(Instr.sliceAt t (.string (S s)) lo hi none).run P w=.ok (.string (S ((s.drop a).take (b-a)))) w:=by intro a b w hb;have hsz:(S s).size=s.length:=rfl;rw[run_sliceAt_string w t _ _ _ _ ht];simp only[Instr.slice,Sem.run_bind,run_underlying ht,Result.andThen_ok,Option.isSome_none,l9,jq,hsz,hb,Sem.run_pure,ex]
 unfold Uk at h;split at h
 .refine⟨_,h,λw=>?_⟩
  have:=fin 0 s.length w (ZL ..);simpa using this
 .refine⟨_,h.2.2,λw=>?_⟩
  have:=fin _ _ w (abh _ _ h.1 h.2.1 w);rw[this];rw[vD (by simp)]
 .refine⟨_,h.2.2,λw=>?_⟩
  have:=fin _ _ w (abi _ _ h.1 h.2.1 w);simpa using this
 .exact⟨_,h.2.2.2,λw=>fin _ _ w (ZM _ _ h.1 h.2.1 h.2.2.1 w)⟩
 .exact h.elim
def abj{P:Program}{p:Option Addr}{n c sz:Nat}{lo hi:Option Value}{K:Value->Prop}(h:Mi p n c sz lo hi K):
  ∃l j,(∀b w,(Instr.sliceBounds b n c lo hi none).run P w=.ok (l,j,c) w)/\K (.slice (if c=l then p else p.map (·.add (l*sz))) (j-l) (c-l)):=by
 have z:(if c=0 then p else p.map (·.add (0*sz)))=p:=by
  split;·rfl
  .cases p<;>simp[Addr.add]
 unfold Mi at h;split at h
 .exact⟨0,n,λb w=>ZL ..,by rw[z];exact h⟩
 .exact⟨_,_,λb w=>abh b c h.1 h.2.1 w,h.2.2⟩
 .exact⟨0,_,λb w=>abi b n h.1 h.2.1 w,by rw[z];exact h.2.2⟩
 .exact⟨_,_,λb w=>ZM b n h.1 h.2.1 h.2.2.1 w,h.2.2.2⟩
 .exact h.elim
def aqd{P:Program}{t:TypeId}{x:Value}{lo hi:Option Value}{K:Value->Prop}(h:BP P t x lo hi K):
  ∃v,K v/\∀w,(Instr.sliceAt t x lo hi none).run P w=.ok v w:=by
 unfold BP at h;split at h
 .split at h
  .rename_i ht;exact asc ht h
  .exact h.elim
 .split at h
  .rename_i e ht
   obtain⟨hi',h⟩:=ec h;obtain⟨l,j,hb,hk⟩:=abj (P:=P) h;refine⟨_,hk,λw=>?_⟩;simp only[Instr.sliceAt,Instr.slice,Sem.run_bind,run_underlying ht,Result.andThen_ok,hb,p_ hi',Sem.run_pure]
  .exact h.elim
 .split at h
  .rename_i n e ht
   obtain⟨hi',h⟩:=ec h;obtain⟨a,rfl,h⟩:=aKd h;obtain⟨l,j,hb,hk⟩:=abj (P:=P) h;refine⟨_,hk,λw=>?_⟩;simp only[Instr.sliceAt,Instr.sureAddr,Sem.run_bind,run_underlying ht,Result.andThen_ok,hb,p_ hi',Sem.run_pure,FL];split<;>rfl
  .exact h.elim
 .exact h.elim
def aee(P:Program)(t:TypeId)(x i:Value)(K:Value->Prop):Prop:=Ej i λ_ i=>match x with
 |.string ⟨⟨s⟩⟩=>match P.underlying t with
  |some .string=>0<=i/\∃b:UInt8,s[i.toNat]?=some b/\K (.int .u8 b.toNat)
  |_=>False
 |.agg ⟨cs⟩=>match P.underlying t with
  |some (.array n e)=>match P.underlying e with
   |some (.struct _)|some (.array _ _)=>False
   |some _=>aq (je P e) (0<=i/\i<n/\DW (ae7 P e) λv=>cs[i.toNat*eG P e]?=some v/\K v) False
   |none=>False
  |_=>False
 |_=>False
def aqe{P:Program}{t:TypeId}{x i:Value}{K:Value->Prop}(h:aee P t x i K):∃v,K v/\∀w,(Instr.index t x i).run P w=.ok v w:=by
 obtain⟨k,i,rfl,h'⟩:=Ln h;clear h;have h:=h';clear h';split at h
 .rename_i s
  split at h
  .rename_i ht
   obtain⟨h0,b,hb,hk⟩:=h;refine⟨_,hk,λw=>?_⟩;have hl:i.toNat<s.length:=(iw.1 hb).1;have hsz:(S s).size=s.length:=rfl;have hg:(S s)[i.toNat]?=some b:=by rw[ByteArray.getElem?_lt' _ _ (by rw[hsz];exact hl)];rw[iy hl]at hb;exact hb
   simp only[Instr.index,asIntOf,Sem.run_bind,Sem.run_pure,Result.andThen_ok,run_underlying ht,aN h0,hg]
  .exact h.elim
 .rename_i cs
  split at h
  .rename_i n e ht
   split at h
   .exact h.elim
   .exact h.elim
   .rename_i d hs ha hu
    obtain⟨hi,h⟩:=ec h;obtain⟨h0,h1,h⟩:=h;obtain⟨v,_,hv,hk⟩:=aKF h;refine⟨v,hk,λw=>?_⟩;have h3:=DG hu w;have h4:AA d=false:=by
     cases d<;>first|rfl|skip
     .rename_i n e;exact(ha n e rfl).elim
     .rename_i fs;exact(hs fs rfl).elim
    rw[h4]at h3;simp only[Instr.index,asIntOf,Sem.run_bind,Sem.run_pure,Result.andThen_ok,run_underlying ht,aN (And.intro h0 h1),p_ hi,part,h3,l9,jq,Bl,hv]
   .exact h.elim
  .exact h.elim
 .exact h.elim
def aal(P:Program)(t:TypeId)(x i:Value)(K:Value->Prop):Prop:=Ej i λ_ i=>match x with
 |.slice p n _=>match P.underlying t with
  |some (.slice e)=>aq (je P e) (0<=i/\i<n/\aE p λa=>K (.pointer (some (a.add (i.toNat*eG P e))))) False
  |_=>False
 |.pointer p=>match P.underlying t with
  |some (.array n e)=>aq (je P e) (aE p λa=>0<=i/\i<n/\K (.pointer (some (a.add (i.toNat*eG P e))))) False
  |_=>False
 |_=>False
def anK{P:Program}{t:TypeId}{x i:Value}{K:Value->Prop}(h:aal P t x i K):∃v,K v/\∀w,(Instr.indexAt t x i).run P w=.ok v w:=by
 obtain⟨k,i,rfl,h'⟩:=Ln h;clear h;have h:=h';clear h';split at h
 .split at h
  .rename_i e ht
   obtain⟨hi,h⟩:=ec h;obtain⟨h0,h1,h⟩:=h;obtain⟨a,rfl,hk⟩:=aKd h;refine⟨_,hk,λw=>?_⟩;simp only[Instr.indexAt,asIntOf,Sem.run_bind,Sem.run_pure,Result.andThen_ok,run_underlying ht,aN (And.intro h0 h1),p_ hi]
  .exact h.elim
 .split at h
  .rename_i n e ht
   obtain⟨hi,h⟩:=ec h;obtain⟨a,rfl,h0,h1,hk⟩:=aKd h;refine⟨_,hk,λw=>?_⟩;simp only[Instr.indexAt,Instr.sureAddr,asIntOf,Sem.run_bind,Sem.run_pure,Result.andThen_ok,run_underlying ht,aN (And.intro h0 h1),p_ hi]
  .exact h.elim
 .exact h.elim
def RQ(P:Program)(s:TypeId)(x:Value)(f:Nat)(K:Value->Prop):Prop:=match P.underlying s with
 |some (.struct ⟨fs⟩)=>match fs[f]? with
  |some fl=>aq (je P fl.type) (aq (Nat.beq (eG P fl.type) 0) False (yy x λa=>K (.pointer (some (a.add fl.offset))))) False
  |none=>False
 |_=>False
def anL{P:Program}{s:TypeId}{x:Value}{f:Nat}{K:Value->Prop}(h:RQ P s x f K):∃v,K v/\∀w,(Instr.fieldAt s x f).run P w=.ok v w:=by
 unfold RQ at h;split at h
 .rename_i fs hu
  split at h
  .rename_i fl hf
   obtain⟨hi,h⟩:=ec h;rw[aHL]at h;cases hz:Nat.beq (eG P fl.type) 0 with
   |true=>exact(h.1 hz).elim
   |false=>
    obtain⟨a,rfl,hk⟩:=BG (h.2 hz);refine⟨_,hk,λw=>?_⟩;have hne:¬eG P fl.type=0:=λe=>by rw[e]at hz;cases hz
    simp only[Instr.fieldAt,Instr.sureAddr,Sem.run_bind,Sem.run_pure,Result.andThen_ok,run_underlying hu,Bl,hf,fieldPlace,p_ hi,aH hne]
  .exact h.elim
 .exact h.elim
def TM(P:Program)(s:TypeId)(x:Value)(f:Nat)(K:Value->Prop):Prop:=match P.underlying s,x with
 |some (.struct ⟨fs⟩),.agg ⟨cs⟩=>match fs[f]? with
  |some fl=>match P.underlying fl.type with
   |some (.struct _)|some (.array _ _)=>aq (je P fl.type) (K (.agg ⟨(cs.drop fl.offset).take (eG P fl.type)⟩)) False
   |some _=>tD cs fl.offset K
   |none=>False
  |none=>False
 |_,_=>False
def aqf{P:Program}{s:TypeId}{x:Value}{f:Nat}{K:Value->Prop}(h:TM P s x f K):∃v,K v/\∀w,(Instr.field s x f).run P w=.ok v w:=by
 unfold TM at h;split at h
 .rename_i fs cs hu
  split at h
  .rename_i fl hf
   have fe:∀d,P.underlying fl.type=some d->AA d=true->aq (je P fl.type) (K (.agg ⟨(cs.drop fl.offset).take (eG P fl.type)⟩)) False->∃v,K v/\∀w,(Instr.field s (.agg ⟨cs⟩) f).run P w=.ok v w:=by
    intro d hd ha h;obtain⟨hi,h⟩:=ec h;refine⟨_,h,λw=>?_⟩;have h3:=DG hd w;rw[ha]at h3;have hx:(Array.mk cs).extract fl.offset (fl.offset+eG P fl.type)=⟨(cs.drop fl.offset).take (eG P fl.type)⟩:=by apply kM;simp[O0]
    simp only[Instr.field,asAgg,part,Sem.run_bind,Sem.run_pure,Result.andThen_ok,run_underlying hu,Bl,hf,h3,pq,p_ hi,hx]
   split at h
   .rename_i hd;exact fe _ hd rfl h
   .rename_i hd;exact fe _ hd rfl h
   .rename_i d hs ha hd
    obtain⟨v,hv,hk⟩:=xA h;refine⟨v,hk,λw=>?_⟩;have h3:=DG hd w;have h4:AA d=false:=by
     cases d<;>first|rfl|skip
     .rename_i n e;exact(ha n e rfl).elim
     .rename_i fs;exact(hs fs rfl).elim
    rw[h4]at h3;simp only[Instr.field,asAgg,part,Sem.run_bind,Sem.run_pure,Result.andThen_ok,run_underlying hu,Bl,hf,h3,l9,jq,hv]
   .exact h.elim
  .exact h.elim
 .exact h.elim
def afX(x:Value)(K:Value->Prop):Prop:=match x with
 |.pointer p=>aE p λa=>K (.pointer (some a))
 |.func (.func f) first cap=>K (.func (.func f) first cap)
 |_=>False
def S_(P:Program)(to:TypeId)(x:Value)(K:Value->Prop):Prop:=match P.underlying to with
 |some (.interface _)=>False
 |some _=>match x with
  |.iface t v=>aq (Nat.beq t to) (K v) False
  |_=>False
 |none=>False
def apc{P:Program}{from_ to:TypeId}{x:Value}{K:Value->Prop}(h:S_ P to x K):∃v,K v/\∀w,(Instr.typeAssert x from_ to false).run P w=.ok v w:=by
 unfold S_ at h;split at h
 .exact h.elim
 .rename_i d hn hu
  split at h
  .rename_i t v
   obtain⟨hb,hk⟩:=ec h;obtain rfl:=oz hb;refine⟨v,hk,λw=>?_⟩;simp only[Instr.typeAssert,Sem.run_bind,run_underlying hu,Result.andThen_ok];cases d<;>first|(simp;done)|(rename_i ms;exact(hn ms rfl).elim)
  .exact h.elim
 .exact h.elim
def acs(x:Value)(i:Nat)(K:Value->Prop):Prop:=match x with
 |.tuple ⟨vs⟩=>tD vs i K
 |_=>False
def aef(P:Program)(t:TypeId)(x:Value)(K:Value->Prop):Prop:=match P.underlying t with
 |some (.interface _)=>False
 |some _=>K (.iface t x)
 |none=>False
def ae8(c a b:Value)(K:Value->Prop):Prop:=match c with
 |.bool c=>aq c (K a) (K b)
 |_=>False
def SE(P:Program)(b:Builtin)(ts:List TypeId)(vs:List Value)(K:Value->Prop):Prop:=match b,ts,vs with
 |.len,[t],[.string ⟨⟨s⟩⟩]=>match P.underlying t with
  |some .string=>K (.int .i64 s.length)
  |_=>False
 |.len,[t],[.slice _ n _]=>match P.underlying t with
  |some (.slice _)=>K (.int .i64 n)
  |_=>False
 |.cap,[t],[.slice _ _ c]=>match P.underlying t with
  |some (.slice _)=>K (.int .i64 c)
  |_=>False
 |.unsafeSliceData,_,[.slice p _ c]=>(p=none\/c≠0)/\K (.pointer p)
 |.max,_,[.int k x,.int _ y]=>K (.int k (if y>x then y else x))
 |.min,_,[.int k x,.int _ y]=>K (.int k (if y<x then y else x))
 |_,_,_=>False
def aow{P:Program}{b:Builtin}{ts:List TypeId}{t:TypeId}{cs:Array Bool}{vs:List Value}{K:Value->Prop}(h:SE P b ts vs K):
  ∃v,K v/\∀w,(builtin b ⟨ts⟩ t cs ⟨vs⟩).run P w=.ok (.value v) w:=by
 unfold SE at h;split at h
 .split at h
  .rename_i hu
   refine⟨_,h,λw=>?_⟩;have hl:=λw s=>run_len_string (P:=P) w _ t (S s) hu;simp only[builtin,Sem.run_bind,hl,Result.andThen_ok,Sem.run_pure];rfl
  .exact h.elim
 .split at h
  .rename_i hu
   refine⟨_,h,λw=>?_⟩;simp[builtin,Builtin.len_,run_underlying hu,goInt]
  .exact h.elim
 .split at h
  .rename_i hu
   refine⟨_,h,λw=>?_⟩;simp[builtin,Builtin.cap_,run_underlying hu,goInt]
  .exact h.elim
 .rename_i p n c
  obtain⟨h0,h⟩:=h;refine⟨_,h,λw=>?_⟩;have e:(Builtin.unsafeSliceData_ ⟨ts⟩ t #[.slice p n c]).run P w=.ok (.pointer p) w:=by
   cases p with
   |none=>exact Lib.run_unsafeSliceData_nil w _ _ _ _
   |some a=>exact Lib.run_unsafeSliceData_row w _ _ _ _ _ (by simpa using h0)
  simp only[builtin,Sem.run_bind,e,Result.andThen_ok,Sem.run_pure]
 .refine⟨_,h,λw=>?_⟩
  simp[builtin,Builtin.max_,Builtin.max2]
 .refine⟨_,h,λw=>?_⟩
  simp[builtin,Builtin.min_,Builtin.min2]
 .exact h.elim
def cellsOf:Value->List Value
 |.agg ⟨cs⟩=>cs
 |v=>[v]
def vK(v:Value):v.cells=⟨cellsOf v⟩:=by cases v<;>rfl
def zeroOf(P:Program)(t:TypeId):List Value:=match P.info? t with
 |some i=>match i.zero with
  |some z=>cellsOf z
  |none=>[]
 |none=>[]
def zY(P:Program)(t:TypeId):Bool:=match P.info? t with
 |some i=>match i.zero with
  |some _=>true
  |none=>false
 |none=>false
def ZN{P:Program}{t:TypeId}(h:zY P t=true):∃i z,P.info? t=some i/\i.zero=some z/\cellsOf z=zeroOf P t:=by
 unfold zY at h;unfold zeroOf;cases hi:P.info? t with
 |none=>simp[hi]at h
 |some i=>
  cases hz:i.zero with
  |none=>simp[hi,hz]at h
  |some z=>exact⟨i,z,rfl,hz,by simp[hz]⟩
def Lo{P:Program}{t:TypeId}(h:zY P t=true):∃z,cellsOf z=zeroOf P t/\∀w,(zeroValue t).run P w=.ok z w:=by obtain⟨i,z,hi,hz,hc⟩:=ZN h;exact⟨z,hc,λw=>by simp[zeroValue,typeInfo,hi,hz]⟩
def Ta(l:Fr):Nat->List Value->(Fr->Prop)->Prop
 |_,[],K=>K l
 |n,v::r,K=>su l n v λl'=>Ta l' (n+1) r K
def yP(l:Fr):Nat->List Value->Fr
 |_,[]=>l
 |n,v::r=>yP (l.set n v) (n+1) r
def apd{vs:List Value}:∀{l:Fr} {n:Nat} {K:Fr->Prop},Ta l n vs K->K (yP l n vs):=by
 induction vs with
 |nil=>intro l n K h;exact h
 |cons v r ih=>intro l n K h;exact ih (BF h)
def at1(vs:List Value):∀(l:Fr) (off k:Nat),((vs.zipIdx k).foldl (λ(cs:Array Value) (x:Value×Nat)=>cs.setIfInBounds (off+x.2) x.1) ⟨l⟩)=⟨yP l (off+k) vs⟩:=by
 induction vs with
 |nil=>intro l off k;rfl
 |cons v r ih=>intro l off k;simp only[List.zipIdx_cons,aJ4,yP,OV];have:=ih (l.set (off+k) v) off (k+1);rwa[<-FX]at this
def abk(vs:List Value)(l:Fr)(off:Nat):(((Array.mk vs).zipIdx).foldl (λ(cs:Array Value) (x:Value×Nat)=>cs.setIfInBounds (off+x.2) x.1) ⟨l⟩)=⟨yP l off vs⟩:=by
 have h1:(Array.mk vs).zipIdx=⟨vs.zipIdx⟩:=by apply kM;simp
 rw[h1];have:=at1 vs l off 0;simpa using this
def zZ(P:Program)(t:TypeId):Bool:=Nat.beq (eG P t) 1&&match HI P t with
 |.leaf _=>true
 |_=>false
def ape{P:Program}{t:TypeId}(h:zZ P t=true):eG P t=1:=by unfold zZ at h;rw[e_]at h;exact oz h.1
def B3(place:Nat->Option (Nat×Nat))(lf:Nat->Bool):Fr->List (Nat×Value)->(Fr->Prop)->Prop
 |l,[],K=>K l
 |l,(i,v)::r,K=>match place i with
  |some (off,size)=>aq (lf i&&Nat.beq size 1) (aq (Nat.ble (off+1) l.length) (aq v.oneCell' (su l off v λl'=>B3 place lf l' r K) False) False)
    (aq (Nat.beq (cellsOf v).length size&&Nat.ble (off+(cellsOf v).length) l.length) (Ta l off (cellsOf v) λl'=>B3 place lf l' r K) False)
  |none=>False
def RE{v:Value}(h:v.oneCell'=true):cellsOf v=[v]:=by cases v<;>first|rfl|(simp[Value.oneCell']at h)
def Sd{place:Nat->Option (Nat×Nat)}{lf:Nat->Bool}{parts:List (Nat×Value)}:∀{l:Fr} {K:Fr->Prop},B3 place lf l parts K->∃l',Instr.fill place ⟨l⟩ parts=some ⟨l'⟩/\K l':=by
 induction parts with
 |nil=>intro l K h;exact⟨l,rfl,h⟩
 |cons x r ih=>
  intro l K h;obtain⟨i,v⟩:=x;simp only[B3]at h;split at h
  .rename_i off size hp
   obtain⟨h1,h2,l',h3,h4⟩:(cellsOf v).length=size/\off+(cellsOf v).length<=l.length/\∃l',Instr.fill place ⟨yP l off (cellsOf v)⟩ r=some ⟨l'⟩/\K l':=by
    rw[aHL]at h;cases hs:lf i&&Nat.beq size 1 with
    |true=>obtain⟨hb,h⟩:=ec (h.1 hs);obtain⟨h1,h⟩:=ec h;obtain⟨l',h3,h4⟩:=ih (BF h);rw[RE h1];rw[e_]at hs;exact⟨(oz hs.2).symm,Pn hb,l',h3,h4⟩
    |false=>obtain⟨hb,h⟩:=ec (h.2 hs);rw[e_]at hb;obtain⟨l',h3,h4⟩:=ih (apd h);exact⟨oz hb.1,Pn hb.2,l',h3,h4⟩
   refine⟨l',?_,h4⟩;have h5:¬(off+(cellsOf v).length>l.length):=by omega
   simp only[Instr.fill,hp,vK,vG,ne_eq,h1,Yi,Q6,aJA];rw[aH (by simpa[h1]using h2)];rw[abk];exact h3
  .exact h.elim
def LV(l:Fr):List (Nat×Operand)->(List (Nat×Value)->Prop)->Prop
 |[],K=>K []
 |(i,x)::r,K=>cS l x λv=>LV l r λvs=>K ((i,v)::vs)
def aam{l:Fr}{ds:List Deferred}{xs:List (Nat×Operand)}{K:List (Nat×Value)->Prop}(h:LV l xs K):K (xs.map λx=>(x.1,(act l ds).eval x.2)):=by
 induction xs generalizing K with
 |nil=>exact h
 |cons x r ih=>exact ih (cO (ds:=ds) h)
def GJ(P:Program):List Field->Bool
 |[]=>true
 |f::r=>je P f.type&&GJ P r
def placeOf(P:Program)(fs:List Field)(i:Nat):Option (Nat×Nat):=match fs[i]? with
 |some f=>some (f.offset,eG P f.type)
 |none=>none
def TN(P:Program)(t:TypeId)(parts:List (Nat×Value))(K:Value->Prop):Prop:=match P.underlying t with
 |some (.struct ⟨fs⟩)=>aq (GJ P fs&&zY P t) (B3 (placeOf P fs) (λi=>match fs[i]? with|some f=>zZ P f.type|none=>false) (zeroOf P t) parts λl=>K (.agg ⟨l⟩)) False
 |some (.array _ e)=>aq (je P e&&zY P t) (B3 (λi=>some (i*eG P e,eG P e)) (λ_=>zZ P e) (zeroOf P t) parts λl=>K (.agg ⟨l⟩)) False
 |_=>False
def aqg{P:Program}{fs:List Field}(h:GJ P fs=true)(w:World):
  ((Array.mk fs).mapM λf=>(do pure (f.offset,<-sizeOf f.type):Sem (Nat×Nat))).run P w=.ok ⟨fs.map λf=>(f.offset,eG P f.type)⟩ w:=by
 rw[Jt];simp only[Sem.run_map];have:∀fs:List Field,GJ P fs=true->(fs.mapM λf=>(do pure (f.offset,<-sizeOf f.type):Sem (Nat×Nat))).run P w=.ok (fs.map λf=>(f.offset,eG P f.type)) w:=by
  intro fs
  induction fs with
  |nil=>intro _;rfl
  |cons f r ih=>intro h;simp only[GJ,e_]at h;simp only[aJy,Sem.run_bind,p_ h.1,Result.andThen_ok,Sem.run_pure,ih h.2,gi]
 rw[this fs h];rfl
def aqh{P:Program}{t:TypeId}{parts:List (Nat×Value)}{K:Value->Prop}(h:TN P t parts K):∃v,K v/\∀w,(Instr.build t ⟨parts⟩).run P w=.ok v w:=by
 unfold TN at h;split at h
 .rename_i fs hu
  obtain⟨hb,h⟩:=ec h;rw[e_]at hb;obtain⟨z,hz,hr⟩:=Lo hb.2;obtain⟨l',h1,h2⟩:=Sd h;refine⟨_,h2,λw=>?_⟩;have hpl:(λx:Nat=>(Array.mk (fs.map λf=>(f.offset,eG P f.type)))[x]?)=placeOf P fs:=by funext i;simp only[placeOf,Bl,vF];cases fs[i]?<;>rfl
  simp only[Instr.build,Sem.run_bind,hr,Result.andThen_ok,run_underlying hu,aqg hb.1,hpl,vK,hz,h1,Sem.run_pure]
 .rename_i n e hu
  obtain⟨hb,h⟩:=ec h;rw[e_]at hb;obtain⟨z,hz,hr⟩:=Lo hb.2;obtain⟨l',h1,h2⟩:=Sd h;refine⟨_,h2,λw=>?_⟩;simp only[Instr.build,Sem.run_bind,hr,Result.andThen_ok,run_underlying hu,p_ hb.1,vK,hz,h1,Sem.run_pure]
 .exact h.elim
def u7(P:Program)(l:Fr)(o:Oper)(Rd:Addr->Value->Prop)(K:Value->Prop):Prop:=match o.op with
 |.move x|.assign x=>cS l x K
 |.pick c a b=>cS l c λc=>cS l a λa=>cS l b λb=>ae8 c a b K
 |.load t x=>cS l x λx=>yy x λa=>aKL P t a Rd K
 |.nilCheck x=>cS l x λx=>afX x K
 |.binOp op t x (.const .nilIface) _=>cS l x λv=>aq (DX P t) (D6 op v λb=>K (.bool b)) False
 |.binOp op t x y _=>cS l x λx=>cS l y λy=>MK P op t x y K
 |.unOp op _ x=>cS l x λx=>VG op x K
 |.convert s d x=>cS l x λx=>D8 P s d x Rd K
 |.slice t x lo hi none=>cS l x λx=>(match lo with
  |none=>match hi with
   |none=>BP P t x none none K
   |some hi=>cS l hi λhi=>BP P t x none (some hi) K
  |some lo=>cS l lo λlo=>match hi with
   |none=>BP P t x (some lo) none K
   |some hi=>cS l hi λhi=>BP P t x (some lo) (some hi) K)
 |.fieldAddr s x f=>cS l x λx=>RQ P s x f K
 |.field s x f=>cS l x λx=>TM P s x f K
 |.indexAddr t x i=>cS l x λx=>cS l i λi=>aal P t x i K
 |.index t x i=>cS l x λx=>cS l i λi=>aee P t x i K
 |.extract x i=>cS l x λx=>acs x i K
 |.typeAssert x _ to false=>cS l x λx=>S_ P to x K
 |.makeInterface t x=>cS l x λx=>aef P t x K
 |.makeFunc fn ⟨first⟩ ⟨cap⟩=>wg l first λfirst=>wg l cap λcap=>K (.func fn ⟨first⟩ ⟨cap⟩)
 |.call ⟨.builtin b,⟨xs⟩,⟨ts⟩⟩=>wg l xs λvs=>SE P b ts vs K
 |.build t ⟨parts⟩=>LV l parts λps=>TN P t ps K
 |_=>False
def qh{s:Sem Value}{P:Program}{v:Value}{w:World}(h:s.run P w=.ok v w):(do pure (Next.value (<-s)):Sem Next).run P w=.ok (.value v) w:=by simp only[Sem.run_bind,h,Result.andThen_ok,Sem.run_pure]
def DR{P:Program}{l:Fr}{ds:List Deferred}{o:Oper}{Rd:Addr->Value->Prop}{K:Value->Prop}(h:u7 P l o Rd K):
  ∃v,K v/\∀w,Cc Rd w->(execOp (act l ds).eval o).run P w=.ok (.value v) w:=by
 unfold u7 at h;split at h
 .rename_i x ho
  exact⟨_,cO (ds:=ds) h,λw _=>by simp only[execOp,ho,Sem.run_pure]⟩
 .rename_i x ho
  exact⟨_,cO (ds:=ds) h,λw _=>by simp only[execOp,ho,Sem.run_pure]⟩
 .rename_i c a b ho
  have h:=cO (ds:=ds) (cO (ds:=ds) (cO (ds:=ds) h));unfold ae8 at h;split at h
  .rename_i x c hc
   rw[aHL]at h;cases c
   .exact⟨_,h.2 rfl,λw _=>by simp only[execOp,ho,hc,asBool,Sem.run_bind,Sem.run_pure,Result.andThen_ok,l9,jq]⟩
   .exact⟨_,h.1 rfl,λw _=>by simp only[execOp,ho,hc,asBool,Sem.run_bind,Sem.run_pure,Result.andThen_ok,pq]⟩
  .exact h.elim
 .rename_i t x ho
  obtain⟨a,ha,h⟩:=BG (cO (ds:=ds) h);obtain⟨v,hk,hr⟩:=abe h;refine⟨v,hk,λw hw=>?_⟩;simp only[execOp,ho,ha];exact qh (by simp only[Instr.loadAt,Instr.sureAddr,Sem.run_bind,Sem.run_pure,Result.andThen_ok,hr w hw])
 .rename_i x ho
  have h:=cO (ds:=ds) h;unfold afX at h;split at h
  .rename_i y p hx
   obtain⟨a,rfl,hk⟩:=aKd h;exact⟨_,hk,λw _=>by simp only[execOp,ho,hx,Sem.run_pure]⟩
  .rename_i y f first cap hx
   exact⟨_,h,λw _=>by simp only[execOp,ho,hx,Sem.run_pure]⟩
  .exact h.elim
 .rename_i op t x yt ho
  obtain⟨hb,h⟩:=ec (cO (ds:=ds) h);obtain⟨b,hk,hr⟩:=asa hb h;refine⟨_,hk,λw _=>?_⟩;simp only[execOp,ho];refine qh ?_;have hg:(eqGuard op t x (.const .nilIface) ((act l ds).eval x) ((act l ds).eval (.const .nilIface))).run P w=.ok () w:=by
   show(eqGuard op t x (.const .nilIface) ((act l ds).eval x) .nilIface).run P w=.ok () w;unfold eqGuard;cases op<;>first|rfl|skip
   all_goals(generalize(act l ds).eval x=vx;cases vx<;>simp)
  have hr':(binOp op t ((act l ds).eval x) ((act l ds).eval (.const .nilIface))).run P w=.ok (.bool b) w:=hr w;simp only[Sem.run_bind,hg,Sem.run_pure,Result.andThen_ok,hr']
 .rename_i op t x y yt _ ho
  obtain⟨v,hk,hr⟩:=at0 (P:=P) (cO (ds:=ds) (cO (ds:=ds) h));refine⟨v,hk,λw _=>?_⟩;simp only[execOp,ho];refine qh ?_;have hg:(eqGuard op t x y ((act l ds).eval x) ((act l ds).eval y)).run P w=.ok () w:=by
   have h:=cO (ds:=ds) (cO (ds:=ds) h);unfold MK at h;split at h
   .rename_i e
    rw[e];generalize(act l ds).eval x=vx;unfold eqGuard;cases op<;>first|rfl|(cases vx<;>simp)
   .unfold Mh at h
    split at h<;>rename_i e1 e2<;>first
     |(rw[e1];cases op<;>rfl)
     |exact h.elim
     |(rw[e1,e2];exact run_eqGuard_agg w op t x y _ _ (ZK h).1)
  simp only[Sem.run_bind,hg,Sem.run_pure,Result.andThen_ok,hr w]
 .rename_i op t x ho
  obtain⟨v,hk,hr⟩:=avZ (P:=P) (cO (ds:=ds) h);exact⟨v,hk,λw _=>by simp only[execOp,ho];exact qh (hr w)⟩
 .rename_i s d x ho
  obtain⟨v,hk,hr⟩:=abg (P:=P) (cO (ds:=ds) h);exact⟨v,hk,λw hw=>by simp only[execOp,ho];exact qh (hr w hw)⟩
 .rename_i t x lo hi ho
  have h:=cO (ds:=ds) h;have h':BP P t ((act l ds).eval x) (lo.map (act l ds).eval) (hi.map (act l ds).eval) K:=by
   cases lo with
   |none=>cases hi with
    |none=>exact h
    |some hi=>exact cO (ds:=ds) h
   |some lo=>
    have h:=cO (ds:=ds) h;cases hi with
    |none=>exact h
    |some hi=>exact cO (ds:=ds) h
  obtain⟨v,hk,hr⟩:=aqd h';exact⟨v,hk,λw _=>by simp only[execOp,ho,QC];exact qh (hr w)⟩
 .rename_i s x f ho
  obtain⟨v,hk,hr⟩:=anL (cO (ds:=ds) h);exact⟨v,hk,λw _=>by simp only[execOp,ho];exact qh (hr w)⟩
 .rename_i s x f ho
  obtain⟨v,hk,hr⟩:=aqf (cO (ds:=ds) h);exact⟨v,hk,λw _=>by simp only[execOp,ho];exact qh (hr w)⟩
 .rename_i t x i ho
  obtain⟨v,hk,hr⟩:=anK (cO (ds:=ds) (cO (ds:=ds) h));exact⟨v,hk,λw _=>by simp only[execOp,ho];exact qh (hr w)⟩
 .rename_i t x i ho
  obtain⟨v,hk,hr⟩:=aqe (cO (ds:=ds) (cO (ds:=ds) h));exact⟨v,hk,λw _=>by simp only[execOp,ho];exact qh (hr w)⟩
 .rename_i x i ho
  have h:=cO (ds:=ds) h;unfold acs at h;split at h
  .rename_i y vs hx
   obtain⟨v,hv,hk⟩:=xA h;exact⟨v,hk,λw _=>by simp only[execOp,ho,hx];exact qh (by simp only[Instr.extract,Bl,hv,Sem.run_pure])⟩
  .exact h.elim
 .rename_i x tf to ho
  obtain⟨v,hk,hr⟩:=apc (P:=P) (from_:=tf) (cO (ds:=ds) h);exact⟨v,hk,λw _=>by simp only[execOp,ho];exact qh (hr w)⟩
 .rename_i t x ho
  have h:=cO (ds:=ds) h;unfold aef at h;split at h
  .exact h.elim
  .rename_i d hn hu
   refine⟨_,h,λw _=>?_⟩;simp only[execOp,ho];refine qh ?_;simp only[Instr.makeInterface,Sem.run_bind,run_underlying hu,Result.andThen_ok];cases d<;>first|rfl|(rename_i ms;exact(hn ms rfl).elim)
  .exact h.elim
 .rename_i fn first cap ho
  have h:=aKg (ds:=ds) (aKg (ds:=ds) h);refine⟨_,h,λw _=>?_⟩;simp only[execOp,ho];refine qh ?_;simp only[Instr.makeFunc,Sem.run_pure,aJw]
 .rename_i b xs ts ho
  have h:=aKg (ds:=ds) h;obtain⟨v,hk,hr⟩:=aow (P:=P) (t:=o.type) (cs:=(Array.mk xs).map λ|.const _=>true|_=>false) h;refine⟨v,hk,λw _=>?_⟩;simp only[execOp,ho,resolve,invoke,Sem.run_bind,Sem.run_pure,Result.andThen_ok,aJw]at hr⊢;exact hr w
 .rename_i t parts ho
  obtain⟨v,hk,hr⟩:=aqh (aam (ds:=ds) h);refine⟨v,hk,λw _=>?_⟩;simp only[execOp,ho];refine qh ?_;have:=hr w;simpa[aJw]using this
 .exact h.elim
abbrev KW:=Value->World->Prop
def Wr(w:World)(a:Addr):Prop:=(w.cell? a).isSome=true/\w.frozen? a=false
def cA(a:Addr)(K:World->Prop):Nat->List Value->World->Prop
 |_,[],w=>K w
 |i,v::r,w=>aq v.oneCell' (Wr w (a.add i)/\cA a K (i+1) r (w.setCell (a.add i) v)) False
def asd{P:Program}{w:World}{a:Addr}{v:Value}(hv:v.oneCell'=true)(h:Wr w a):(store a v).run P w=.ok () (w.setCell a v):=by
 rw[run_store P w a v _ hv];obtain⟨h1,h2⟩:=h;cases hc:w.cell? a with
 |none=>simp[hc]at h1
 |some u=>simp[h2]
def ZO{P:Program}{a:Addr}{K:World->Prop}{vs:List Value}:∀{i:Nat} {w:World},cA a K i vs w->∃w',(storeCells a vs i).run P w=.ok () w'/\K w':=by
 induction vs with
 |nil=>intro i w h;exact⟨w,rfl,h⟩
 |cons v r ih=>intro i w h;obtain⟨hv,h1,h2⟩:=ec h;obtain⟨w',h3,h4⟩:=ih h2;exact⟨w',by simp only[storeCells,Sem.run_bind,asd hv h1,Result.andThen_ok,h3],h4⟩
def G4(P:Program)(t:TypeId)(a:Addr)(vs:List Value)(w:World)(K:World->Prop):Prop:=
 aq (je P t) (aq (Nat.ble (eG P t) 16)
  (aq (Nat.beq vs.length (eG P t)) (cA a K 0 vs w) False)
  (vs.length=eG P t/\(∀v∈vs,v.oneCell'=true)/\∃(g o:Nat) (cur:List Value) (e:TypeId),a=⟨g,o,none⟩/\Row w g e ⟨cur⟩/\o+vs.length<=cur.length/\
   K (w.setRow g ⟨cur.take o++(vs++cur.drop (o+vs.length))⟩))) False
def aqi{P:Program}{t:TypeId}{a:Addr}{v:Value}{w:World}{K:World->Prop}(h:G4 P t a (cellsOf v) w K):∃w',(storeVar t a v).run P w=.ok () w'/\K w':=by
 obtain⟨hi,h⟩:=ec h;have fin:∀w',(cellsOf v).length=eG P t->(storeCells a (cellsOf v)).run P w=.ok () w'->(storeVar t a v).run P w=.ok () w':=by intro w' hl hr;simp only[storeVar,Sem.run_bind,p_ hi,Result.andThen_ok,vK,vG,hl,ne_eq,Yi,jq,hr]
 rw[aHL]at h;cases hb:Nat.ble (eG P t) 16 with
 |true=>obtain⟨hl,h⟩:=ec (h.1 hb);obtain⟨w',h1,h2⟩:=ZO (P:=P) h;exact⟨w',fin w' (oz hl) h1,h2⟩
 |false=>obtain⟨hl,h1,g,o,cur,e,rfl,hg,hf,hk⟩:=h.2 hb;refine⟨_,fin _ hl ?_,hk⟩;have:=KJ P g o e (cellsOf v) 0 ⟨cur⟩ w hg (by simpa using hf) h1;rw[this];simp[j9]
def TO(P:Program)(t:TypeId)(v:Value):List Value:=bif zZ P t then[v]else cellsOf v
def aqj{P:Program}{t:TypeId}{a:Addr}{v:Value}{w:World}{K:World->Prop}(h:G4 P t a (TO P t v) w K):G4 P t a (cellsOf v) w K:=by
 unfold TO at h;cases hs:zZ P t with
 |false=>rw[hs]at h;exact h
 |true=>
  rw[hs]at h;have h':G4 P t a [v] w K:=h
  suffices hv:v.oneCell'=true by rw[RE hv];exact h'
  obtain⟨_,h⟩:=ec h';rw[aHL]at h;have hb:Nat.ble (eG P t) 16=true:=by rw[ape hs];rfl
  obtain⟨_,h⟩:=ec (h.1 hb);exact(ec h).1
def aI6(zs:List Value):Nat->List Value
 |0=>[]
 |n+1=>zs++aI6 zs n
def ZP(zs:List Value)(n:Nat):(aI6 zs n).length=n*zs.length:=by
 induction n with
 |zero=>simp[aI6]
 |succ n ih=>simp[aI6,ih,aJ7,Nat.add_comm]
def at5(zs:List Value)(n:Nat):∀i,i<n*zs.length->(aI6 zs n)[i]?=zs[i%zs.length]?:=by
 induction n with
 |zero=>intro i hi;simp at hi
 |succ n ih=>
  intro i hi;simp only[aI6]
  by_cases h:i<zs.length
  .rw[wX h,Nat.mod_eq_of_lt h]
  .have hz:zs.length<=i:=J1 h
   rw[zx hz,ih _ (by rw[aJ7]at hi;omega)];congr 1;have:i=(i-zs.length)+zs.length:=by omega
   rw[this,Nat.add_mod_right];simp
def Y4(zs:List Value)(n:Nat):madeCells ⟨zs⟩ (n*zs.length)=⟨aI6 zs n⟩:=by
 apply kM;apply qO;intro i
 by_cases h:i<n*zs.length
 .rw[at5 zs n i h]
  have hz:0<zs.length:=by
   rcases aIi zs.length with h0|h0
   .rw[h0]at h;simp at h
   .exact h0
  have hm:i%zs.length<zs.length:=Dz _ hz;simp[madeCells,h,hm]
 .have h1:n*zs.length<=i:=J1 h
  rw[ud (l:=(madeCells ⟨zs⟩ (n*zs.length)).toList) (by simpa[madeCells]using h1),ud (l:=aI6 zs n) (by rw[ZP];exact h1)]
def ae9(P:Program)(t:TypeId)(n c:Value)(w:World)(K:KW):Prop:=Ej n λ_ n=>Ej c λ_ c=>match P.underlying t with
 |some (.slice e)=>match P.info? e with
  |some i=>match i.zero with
   |some z=>0<=n/\n<=c/\(i.bytes:Int)*c<=281474976710656/\c<=9223372036854775807/\
     K (.slice (some ⟨w.heap.size,0,none⟩) n.toNat c.toNat) (w.alloc (.cells (madeCells ⟨cellsOf z⟩ (c.toNat*i.size)) e))
   |none=>False
  |none=>False
 |_=>False
def ase{P:Program}{t:TypeId}{n c:Value}{w:World}{K:KW}(h:ae9 P t n c w K):∃v w',(Instr.makeSlice t n c).run P w=.ok v w'/\K v w':=by
 obtain⟨kn,n,rfl,h1⟩:=Ln h;obtain⟨kc,c,rfl,h2⟩:=Ln h1;clear h h1;have h:=h2;clear h2;split at h
 .rename_i e hu
  split at h
  .rename_i i hi
   split at h
   .rename_i z hz
    obtain⟨h0,h1,h2,h3,hk⟩:=h;have:=run_make (P:=P) w t e i z hu hi hz kn kc n c h0 h1 h2 h3;rw[vK]at this;exact⟨_,_,this,hk⟩
   .exact h.elim
  .exact h.elim
 .exact h.elim
def ads:∀(vs l:Fr) (n:Nat),n+vs.length<=l.length->yP l n vs=l.take n++(vs++l.drop (n+vs.length))
 |[],l,n,_=>by simp[yP]
 |v::r,l,n,h=>by
  have h':n+1+r.length<=l.length:=by simp at h;omega
  rw[yP,ads r (l.set n v) (n+1) (by simpa using h')];apply qO;intro j;simp only[JD,aJ1,Dg,eZ,zG,Dl,a_,P0]
  grind
def aK2(sz:Nat)(z:Fr)(len:Nat)(parts:List (Nat×Value))(K:Fr->Prop):Prop:=match len,parts with
 |1,[(0,.agg ⟨cs⟩)]=>aq (Nat.beq cs.length sz) (K cs) False
 |_,_=>B3 (λi=>some (i*sz,sz)) (λ_=>false) z parts K
def aox{sz len:Nat}{z:Fr}{parts:List (Nat×Value)}{K:Fr->Prop}(hz:z.length=len*sz)(h:aK2 sz z len parts K):∃l',Instr.fill (λi=>some (i*sz,sz)) ⟨z⟩ parts=some ⟨l'⟩/\K l':=by
 unfold aK2 at h;split at h
 .rename_i cs
  obtain⟨hb,h⟩:=ec h;have hb:=oz hb;refine⟨cs,?_,h⟩;simp only[Instr.fill,vK,cellsOf,vG,F2];rw[aH (by simp;omega),abk,ads _ _ _ (by omega)];have:z.length=cs.length:=by omega
  simp[<-this]
 .exact Sd h
def RR(P:Program)(t:TypeId)(len:Nat)(parts:List (Nat×Value))(w:World)(K:KW):Prop:=match P.underlying t with
 |some (.slice e)=>aq (je P e&&zY P e&&Nat.beq (zeroOf P e).length (eG P e)&& !Nat.beq (len*eG P e) 0&&Nat.ble (len*eG P e) 16777216)
   (aK2 (eG P e) (aI6 (zeroOf P e) len) len parts λl=>K (.slice (some ⟨w.heap.size,0,none⟩) len len) (w.alloc (.cells ⟨l⟩ e))) False
 |_=>False
def anM{P:Program}{t:TypeId}{len:Nat}{parts:List (Nat×Value)}{w:World}{K:KW}(h:RR P t len parts w K):
  ∃v w',(Instr.buildSlice t len ⟨parts⟩).run P w=.ok v w'/\K v w':=by
 unfold RR at h;split at h
 .rename_i e hu
  obtain⟨hb,h⟩:=ec h;simp only[e_,aJ3]at hb;obtain⟨⟨⟨⟨h1,h2⟩,h3⟩,h4⟩,h5⟩:=hb;obtain⟨z,hz,hr⟩:=Lo h2;have h3:=oz h3;obtain⟨l',h6,h7⟩:=aox (by rw[ZP,h3]) h;have h4:¬len*eG P e=0:=λhe=>by rw[he]at h4;cases h4
  have h5:=Pn h5;refine⟨_,_,?_,h7⟩;have hcells:(Array.range (len*eG P e)).map (λi=>(Array.mk (zeroOf P e))[i%(Array.mk (zeroOf P e)).size]!)=⟨aI6 (zeroOf P e) len⟩:=by rw[<-Y4,h3];rfl
  have h5':¬(2^24<len*eG P e):=by omega
  simp only[Instr.buildSlice,Sem.run_bind,run_underlying hu,Result.andThen_ok,p_ h1,gt_iff_lt,aH h5',aH h4,hr,vK,hz,hcells,h6,Sem.run_pure,newRow];rfl
 .exact h.elim
def RS(P:Program)(t:TypeId)(w:World)(K:KW):Prop:=match P.underlying t with
 |some (.slice e)=>aq (je P e) (K (.slice (some ⟨w.heap.size,0,none⟩) 0 0) (w.alloc (.cells ⟨[]⟩ e))) False
 |_=>False
def aKW(P:Program)(t:TypeId)(len:Nat)(parts:List (Nat×Value))(w:World)(K:KW):Prop:=
 aq (Nat.beq len 0&&parts.isEmpty) (RS P t w K) (RR P t len parts w K)
def anr{P:Program}{t:TypeId}{len:Nat}{parts:List (Nat×Value)}{w:World}{K:KW}(h:aKW P t len parts w K):
  ∃v w',(Instr.buildSlice t len ⟨parts⟩).run P w=.ok v w'/\K v w':=by
 unfold aKW at h;cases hb:(Nat.beq len 0&&parts.isEmpty)with
 |false=>rw[hb]at h;exact anM h
 |true=>
  rw[hb]at h;simp only[e_,Qq]at hb;obtain⟨h0,rfl⟩:=hb;obtain rfl:=oz h0;have h:RS P t w K:=h;unfold RS at h;split at h
  .rename_i e hu
   obtain⟨h1,h⟩:=ec h;refine⟨_,_,?_,h⟩;have hz:(Array.range 0).map (λi=>(#[]:Array Value)[i%(#[]:Array Value).size]!)=#[]:=by simp
   simp only[Instr.buildSlice,Sem.run_bind,run_underlying hu,Result.andThen_ok,p_ h1,F2,gt_iff_lt,Nat.not_lt_zero,pq,jq,Sem.run_pure,newRow,hz];rfl
  .exact h.elim
def oh(p p':Option Addr)(n' c c' s:Nat):Prop:=(p'=p/\c'=c)\/((Value.slice p' n' c').ownBlock=some s/\0<n')
def oh.own{p p':Option Addr}{n n' c c' s:Nat}(h:oh p p' n' c c' s):(Value.slice p' n' c').ownBlock=(Value.slice p n c).ownBlock\/(Value.slice p' n' c').ownBlock=some s:=by
 rcases h with⟨rfl,rfl⟩|⟨h,_⟩
 .exact .inl (by cases p'<;>rfl)
 .exact .inr h
def aK3(P:Program)(t u:TypeId)(s x:Value)(w:World)(K:KW):Prop:=match s with
 |.slice p n c=>match P.underlying t with
  |some (.slice e)=>match P.info? e with
   |some i=>aq (zY P e&&Nat.beq (zeroOf P e).length i.size&& !Nat.beq i.size 0) (match x with
     |.slice q m _=>match P.underlying u with
      |some (.slice _)=>∃xs news:List Value,aS w 0 e i.size (.slice p n c) n xs/\news.length=m*i.size/\(∀u∈news,u.oneCell'=true)/\
        (0<m->∃a,q=some a/\∀j u,news[j]?=some u->w.cell? (a.add j)=some u)/\n+m<=9223372036854775807/\(n+m)*i.bytes<=140737488355328/\
        ∀(p':Option Addr) (c':Nat) (w':World),aS w' 0 e i.size (.slice p' (n+m) c') (n+m) (xs++news)->w.grownBy w' (Value.slice p n c).ownBlock->
         oh p p' (n+m) c c' w.heap.size->K (.slice p' (n+m) c') w'
      |_=>False
     |.string ⟨⟨b⟩⟩=>match P.underlying u with
      |some .string=>aq (Nat.beq i.size 1) (∃xs:List Value,aS w 0 e i.size (.slice p n c) n xs/\n+b.length<=9223372036854775807/\(n+b.length)*i.bytes<=140737488355328/\
        ∀(p':Option Addr) (c':Nat) (w':World),aS w' 0 e i.size (.slice p' (n+b.length) c') (n+b.length) (xs++b.map (λb=>Value.int .u8 b.toNat))->w.grownBy w' (Value.slice p n c).ownBlock->
         oh p p' (n+b.length) c c' w.heap.size->K (.slice p' (n+b.length) c') w') False
      |_=>False
     |_=>False) False
   |none=>False
  |_=>False
 |_=>False
def YN{P:Program}{w:World}{t u ty e:TypeId}{i:TypeInfo}{z:Value}(ht:P.underlying t=some (.slice e)){d:TypeDesc}(hu:P.underlying u=some d)(hd:∀k,d≠.int k)(hi:P.info? e=some i)(hz:i.zero=some z)
  (hzs:z.cells.size=i.size)(hsz:0<i.size){x:Value}{p:Option Addr}{n c m:Nat}{xs news:List Value}(hown:aS w 0 e i.size (.slice p n c) n xs)(hlen:∀w',(Builtin.lenOf x).run P w'=.ok m w')
  (hf:(Builtin.firstCells i.size m x).run P w=.ok ⟨news⟩ w)(hfd:(Builtin.firstCells i.size m x).run P w.drew=.ok ⟨news⟩ w.drew)(hl:news.length=m*i.size)(h1:∀u∈news,u.oneCell'=true)
  (h63:n+m<=9223372036854775807)(hbytes:(n+m)*i.bytes<=140737488355328):
  ∃p' c' w',(Builtin.append_ #[t,u] ty #[.slice p n c,x]).run P w=.ok (.slice p' (n+m) c') w'/\aS w' 0 e i.size (.slice p' (n+m) c') (n+m) (xs++news)/\w.grownBy w' (Value.slice p n c).ownBlock/\
   oh p p' (n+m) c c' w.heap.size:=by
 have hmax:n+m<=maxLen:=by simpa[maxLen]using h63
 have Ns:(xs++news).length=(n+m)*i.size:=by rw[aHb,hown.1,hl,aJ7]
 have hne:(match d with|.int _=>true|_=>false)=false:=by cases d<;>first|rfl|exact(hd _ rfl).elim
 have grown:∀(old:Nat) (row:Option Nat),
   aS (w.drew.alloc (.cells (xs.toArray++news.toArray++Builtin.zeroCells z.cells (grownCap w (n+m) old e-(n+m))) e)) 0 e i.size
    (.slice (some ⟨w.heap.size,0,none⟩) (n+m) (grownCap w (n+m) old e)) (n+m) (xs++news)/\
   w.grownBy (w.drew.alloc (.cells (xs.toArray++news.toArray++Builtin.zeroCells z.cells (grownCap w (n+m) old e-(n+m))) e)) row:=by
  intro old row;have hge:=grownCap_ge w (n+m) old e;have hcm:grownCap w (n+m) old e<=maxLen:=grownCap_le_maxLen w (n+m) old e hmax;refine⟨⟨Ns,.inr ⟨w.heap.size,_,_,rfl,dU _,Row.new w.drew e _,hge,hcm,?_,?_⟩⟩,⟨rfl,rfl,rfl,by simp,λk hk _=>Below.heap_alloc w.drew _ k hk⟩⟩
  .simp only[Qd,vG,size_zeroCells,hzs,hown.1,hl,<-aJ7]
   congr 1;omega
  .simp only[X0,j9]
   rw[<-j9,<-Ns];exact List.take_left
 have h63':¬(9223372036854775807<((n:Int)+(m:Int))):=by omega
 rcases hown.2 with⟨hv,rfl⟩|⟨g,cap,cur,hv,_,hg,hnc,hcm,hcs,D4⟩<;>(injection hv with hv1 _ AM;subst hv1;subst AM)
 .have hx:xs=[]:=mC (by simpa using hown.1)
  subst hx;rcases aIi m with rfl|hm
  .have hn:news=[]:=mC (by simpa using hl)
   subst hn;refine⟨none,0,w,?_,by simpa using aS.nil w 0 e i.size,World.grownBy.refl w _,.inl ⟨rfl,rfl⟩⟩;simp[Builtin.append_,run_underlying ht,run_underlying hu,hne,sizeOf,typeInfo,hi,hlen,hf]
  .have hm0:m≠0:=by omega
   have ayx:¬(9223372036854775807<(m:Int)):=by omega
   have UL:¬(281474976710656<Builtin.nextslicecap m 0*i.bytes):=by
    rw[nextslicecap_zero hm];have:m*i.bytes<=140737488355328:=by simpa using hbytes
    omega
   have EG:=grown 0 (Value.ownBlock (.slice none 0 0));simp only[cL,Dp,aLl]at EG⊢;refine⟨_,_,_,?_,EG.1,EG.2,.inr ⟨rfl,by omega⟩⟩;simp[Builtin.append_,run_underlying ht,run_underlying hu,hne,sizeOf,typeInfo,zeroValue,hi,hz,hlen,hm0,ayx,UL,Question.forced,run_firstCells_none,hfd,newRow,grownCap]
 ·by_cases hroom:n+m<=c
  .have hfit:n*i.size+news.length<=cur.size:=by rw[hl,hcs,<-aJ7];exact XW _ hroom
   have hst:=KJ P g (n*i.size) e news 0 cur w hg (by simpa using hfit) h1;simp only[F1]at hst;have hsize:(cur.toList.take (n*i.size)++news++cur.toList.drop (n*i.size+news.length)).toArray.size=cur.size:=by simp only[vG,aHb,eZ,j_,JK];omega
   refine⟨some ⟨g,0,none⟩,c,w.setRow g (cur.toList.take (n*i.size)++news++cur.toList.drop (n*i.size+news.length)).toArray,?_,
    ⟨Ns,.inr ⟨g,c,_,rfl,dU _,hg.setRow _ hsize,hroom,hcm,by rw[hsize,hcs],?_⟩⟩,⟨rfl,rfl,rfl,by simp,λk _ hk=>setRow_other w g k _ (λe=>hk (by simp[Value.ownBlock,e]))⟩,.inl ⟨rfl,rfl⟩⟩
   .simp[Builtin.append_,run_underlying ht,run_underlying hu,hne,sizeOf,typeInfo,hi,hlen,hroom,hf,Addr.add_lit,hst]
   .rw[D4,<-Ns]
    exact List.take_left
  .have EG:=grown c (Value.ownBlock (.slice (some ⟨g,0,none⟩) n c))
   have hfo:=run_firstCells_some (P:=P) w.drew i.size n ⟨g,0,none⟩ n c xs hown.1 (λj u hu=>by
    have:=hown.cells (g:=g) rfl j u hu;have e:(⟨g,0,none⟩:Addr).add j=⟨g,j,none⟩:=by unfold Addr.add;split<;>simp_all
    rw[e];exact this)
   have UL:¬(281474976710656<Builtin.nextslicecap (n+m) c*i.bytes):=by have:=growslice_fits (need:=n+m) (old:=c) (by omega) hbytes;omega
   refine⟨_,_,_,?_,EG.1,EG.2,.inr ⟨rfl,by omega⟩⟩;simp[Builtin.append_,run_underlying ht,run_underlying hu,hne,sizeOf,typeInfo,zeroValue,hi,hz,hlen,hroom,h63',UL,Question.forced,hfd,hfo,newRow,grownCap];congr 2;apply kM;simp[j9]
def apf{P:Program}{t u ty:TypeId}{s x:Value}{w:World}{K:KW}(h:aK3 P t u s x w K):∃v w',(Builtin.append_ #[t,u] ty #[s,x]).run P w=.ok v w'/\K v w':=by
 unfold aK3 at h;split at h
 .rename_i p n c
  split at h
  .rename_i e ht
   split at h
   .rename_i i hi
    obtain⟨hb,h⟩:=ec h;simp only[e_,aJ3]at hb;obtain⟨⟨h1,h2⟩,h3⟩:=hb;obtain⟨i',z,hi',hz,hc⟩:=ZN h1;obtain rfl:i'=i:=by rw[hi]at hi';exact(bO hi').symm
    have h2:=oz h2;have h3:0<i'.size:=by
     rcases aIi i'.size with h0|h0
     .rw[h0]at h3;cases h3
     .exact h0
    have hzs:z.cells.size=i'.size:=by rw[vK,hc];exact h2
    split at h
    .rename_i q m c2 _
     split at h
     .rename_i e2 hu
      obtain⟨xs,news,hown,hl,hone,hsrc,hm,hby,hk⟩:=h;have BQ:∀w',(∀a,w'.cell? a=w.cell? a)->(Builtin.firstCells i'.size m (.slice q m c2)).run P w'=.ok ⟨news⟩ w':=by
       intro w' hw;rcases aIi m with h0|h0
       .subst h0
        obtain rfl:news=[]:=mC (by simpa using hl);cases q with
        |none=>rfl
        |some a=>simp[Builtin.firstCells,loadCells,loadCellsFrom]
       .obtain⟨a',h,hc⟩:=hsrc h0
        subst h;have:=run_firstCells_some (P:=P) w' i'.size m a' m c2 news hl (λj u hu=>(hw _).trans (hc j u hu));simpa using this
      obtain⟨p',c',w',hrun,h5,h6,h8⟩:=YN (ty:=ty) ht hu (by simp) hi hz hzs h3 hown (x:=.slice q m c2) (m:=m) (news:=news) (λ_=>rfl) (BQ w (λ_=>rfl)) (BQ w.drew (λ_=>rfl)) hl hone hm hby;exact⟨_,_,hrun,hk p' c' w' h5 h6 h8⟩
     .exact h.elim
    .rename_i b _
     split at h
     .rename_i hu
      obtain⟨VH,xs,hown,hm,hby,hk⟩:=ec h;have VH:=oz VH;have BQ:∀w',(Builtin.firstCells i'.size b.length (.string ⟨⟨b⟩⟩)).run P w'=.ok ⟨b.map λb=>Value.int .u8 b.toNat⟩ w':=by intro w';simp only[Builtin.firstCells,Sem.run_pure];congr 1;apply kM;simp[O0]
      obtain⟨p',c',w',hrun,h5,h6,h8⟩:=YN (ty:=ty) ht hu (by simp) hi hz hzs h3 hown (x:=.string ⟨⟨b⟩⟩) (m:=b.length) (news:=b.map λb=>Value.int .u8 b.toNat) (λ_=>rfl) (BQ w) (BQ w.drew) (by rw[VH];simp)
       (by intro u hu;simp only[dM]at hu;obtain⟨_,_,rfl⟩:=hu;rfl) hm hby
      exact⟨_,_,hrun,hk p' c' w' h5 h6 h8⟩
     .exact h.elim
    .exact h.elim
   .exact h.elim
  .exact h.elim
 .exact h.elim
def SG(P:Program)(dst:TypeId)(src:TypeId)(s:List UInt8)(w:World)(K:KW):Prop:=match P.underlying src,P.underlying dst with
 |some _,some (.slice e)=>aq (HJ P e) (s.length<=9223372036854775807/\∀(c:Nat) (w':World),aS w' 0 e 1 (.slice (some ⟨w.heap.size,0,none⟩) s.length c) s.length (s.map λb=>Value.int .u8 b.toNat)->w.grownBy w' none->
   K (.slice (some ⟨w.heap.size,0,none⟩) s.length c) w') False
 |_,_=>False
def aoy{P:Program}{src dst:TypeId}{s:List UInt8}{w:World}{K:KW}(h:SG P dst src s w K):∃v w',(convert src dst (.string ⟨⟨s⟩⟩)).run P w=.ok v w'/\K v w':=by
 unfold SG at h;split at h
 .rename_i u e hs hd
  obtain⟨he,hlen,hk⟩:=ec h;have hr:=Lib.run_convert_string_bytes w src dst e ⟨⟨s⟩⟩ hs hd (acr he);refine⟨_,_,hr,hk _ _ ⟨by simp,.inr ⟨w.heap.size,_,_,rfl,dU _,⟨_,Lib.bytesWorld_at_new w e ⟨⟨s⟩⟩,.inr (aR _)⟩,?_,?_,?_,?_⟩⟩ ⟨rfl,rfl,rfl,?_,?_⟩⟩
  .exact grownCap_ge w s.length 0 e
  .exact grownCap_le_maxLen w s.length 0 e (by simpa[maxLen]using hlen)
  .have:=grownCap_ge w s.length 0 e
   simp[Lib.bytesCells,ByteArray.size];omega
  .simp only[Lib.bytesCells,aHA,X0,Array.toList_map]
   rw[OS (by simp)];rw[vD (by simp)]
  .rw[Lib.bytesWorld_size];omega
  .intro k hk _
   exact Lib.bytesWorld_at_old w e ⟨⟨s⟩⟩ k hk
 .exact h.elim
def copyV(P:Program)(t:TypeId)(d s:Value)(w:World)(K:KW):Prop:=match d with
 |.slice p dn _=>match P.underlying t with
  |some (.slice e)=>aq (je P e&&Nat.beq (eG P e) 1) (∃cs:List Value,(∀v∈cs,v.oneCell'=true)/\(match s with
    |.slice q sn _=>cs.length=min sn dn/\(0<cs.length->∃a,q=some a/\∀j u,cs[j]?=some u->w.cell? (a.add j)=some u)
    |.string ⟨⟨s⟩⟩=>cs=(s.take (min s.length dn)).map (λb=>Value.int .u8 b.toNat)
    |_=>False)/\
    ((cs.length=0/\K (.int .i64 0) w)\/∃(g o:Nat) (cur:List Value) (e':TypeId),p=some ⟨g,o,none⟩/\Row w g e' ⟨cur⟩/\o+cs.length<=cur.length/\
     K (.int .i64 cs.length) (w.setRow g ⟨cur.take o++(cs++cur.drop (o+cs.length))⟩))) False
  |_=>False
 |_=>False
def asf{P:Program}{t t2 ty:TypeId}{d s:Value}{w:World}{K:KW}(h:copyV P t d s w K):∃v w',(Builtin.copy_ #[t,t2] ty #[d,s]).run P w=.ok v w'/\K v w':=by
 unfold copyV at h;split at h
 .rename_i p dn dc
  split at h
  .rename_i e hu
   obtain⟨hb,cs,hone,hs,hk⟩:=ec h;simp only[e_]at hb;have hsz:=oz hb.2;have hlen:∃n,(Builtin.lenOf s).run P w=.ok n w/\cs.length=min n dn:=by
    split at hs
    .exact⟨_,rfl,hs.1⟩
    .rename_i s
     refine⟨s.length,rfl,?_⟩;rw[hs];simp
    .exact hs.elim
   have BQ:(Builtin.firstCells 1 cs.length s).run P w=.ok ⟨cs⟩ w:=by
    split at hs
    .rename_i q sn sc
     cases q with
     |none=>
      have h0:cs.length=0:=by
       rcases aIi cs.length with h0|h0
       .exact h0
       .obtain⟨a,ha,_⟩:=hs.2 h0;cases ha
      obtain rfl:=mC h0;rfl
     |some a=>
      have hc:∀j u,cs[j]?=some u->w.cell? (a.add j)=some u:=by
       intro j u hj;have h0:0<cs.length:=by have:=(iw.1 hj).1;omega
       obtain⟨a',ha,hc⟩:=hs.2 h0;obtain rfl:=bO ha;exact hc j u hj
      simp only[Builtin.firstCells,aHA];exact run_loadCells_list (P:=P) w a cs hc
    .rename_i s
     subst hs;simp only[Builtin.firstCells,Sem.run_pure,ke,eZ];congr 1;apply kM;simp[O0,ByteArray.data_extract]
    .exact hs.elim
   obtain⟨n,hn,hcl⟩:=hlen;have hmin:Nat.min n dn=cs.length:=hcl.symm;have pre:∀(r:Result Value),(match p with
     |some a=>((storeCells a cs).run P w).andThen λ_ w'=>.ok (goInt cs.length) w'
     |none=>.ok (goInt cs.length) w)=r->(Builtin.copy_ #[t,t2] ty #[.slice p dn dc,s]).run P w=r:=by
    intro r hr;subst hr;cases p<;>simp[Builtin.copy_,run_underlying hu,hn,hmin,p_ hb.1,hsz,BQ,Result.andThen]
   rcases hk with⟨h0,hk⟩|⟨g,o,cur,e',rfl,hg,hf,hk⟩
   .obtain rfl:=mC h0
    refine⟨_,_,pre _ ?_,hk⟩;cases p<;>rfl
   .refine⟨_,_,pre _ ?_,hk⟩
    have:=KJ P g o e' cs 0 ⟨cur⟩ w hg (by simpa using hf) hone;simp only[this,Result.andThen_ok,goInt,F1,j9]
  .exact h.elim
 .exact h.elim
def cY(P:Program)(f:FuncId):Bool:=match P.funcs[f]? with
 |some fn=>match fn.body with
  |some _=>!(fn.name== "runtime.NumGoroutine")
  |none=>false
 |none=>false
def KK{P:Program}{f:FuncId}(h:cY P f=true)(args:Array Value)(w:World):(callFunc f args).run P w=.ok (.enter f args) w:=by
 unfold cY at h;cases hf:P.funcs[f]? with
 |none=>simp[hf]at h
 |some fn=>
  cases hb:fn.body with
  |none=>simp[hf,hb]at h
  |some c=>
   have hn:fn.name≠ "runtime.NumGoroutine" :=by simpa[hf,hb]using h
   simp[callFunc,hf,hb,hn]
def gj(f:Value)(K:FuncId->List Value->List Value->Prop):Prop:=match f with
 |.func (.func g) ⟨first⟩ ⟨cap⟩=>K g first cap
 |_=>False
def Ga{f:Value}{K:FuncId->List Value->List Value->Prop}(h:gj f K):∃g first cap,f=.func (.func g) ⟨first⟩ ⟨cap⟩/\K g first cap:=by
 unfold gj at h;split at h
 .exact⟨_,_,_,rfl,h⟩
 .exact h.elim
def acu{P:Program}{l:Fr}{ds:List Deferred}{o:Oper}{f:Operand}{xs:List Operand}{ts:Array TypeId}(ho:o.op=.call ⟨.value f,⟨xs⟩,ts⟩){g:FuncId}{first cap:List Value}
  (hf:(act l ds).eval f=.func (.func g) ⟨first⟩ ⟨cap⟩)(hc:cY P g=true)(w:World):
  (execOp (act l ds).eval o).run P w=.ok (.enter g ⟨first++(xs.map (act l ds).eval++cap)⟩) w:=by
 simp only[execOp,ho,resolve,hf,Deferred.ofValue,invoke,Sem.run_bind,Sem.run_pure,Result.andThen_ok];rw[KK hc];congr 2;apply kM;simp
def TP(P:Program)(t:TypeId)(v:Value)(w:World)(K:KW):Prop:=match v with
 |.string ⟨⟨b⟩⟩=>match P.underlying t with
  |some .string=>K (.pointer (some ⟨w.heap.size,0,none⟩)) (w.alloc (.stringIter ⟨⟨b⟩⟩ 0))
  |_=>False
 |_=>False
def ae_(a:Addr)(w:World)(K:KW):Prop:=a.off=0/\∃(b:List UInt8) (pos:Nat),w.heap[a.block]?=some (.stringIter ⟨⟨b⟩⟩ pos)/\
 aq (decide (pos<b.length)) (K (.tuple #[.bool true,.int .i64 (pos:Int),.int .i32 ((Utf8.decode ⟨⟨b⟩⟩ pos).1:Int)]) (w.iterAt a.block ⟨⟨b⟩⟩ (pos+(Utf8.decode ⟨⟨b⟩⟩ pos).2)))
  (K (.tuple #[.bool false]) w)
def aqk{P:Program}{t:TypeId}{v:Value}{w:World}{K:KW}(h:TP P t v w K):∃u w',(Instr.range t v).run P w=.ok u w'/\K u w':=by
 unfold TP at h;split at h
 .split at h
  .rename_i ht
   refine⟨_,_,?_,h⟩;simp only[Instr.range,Sem.run_bind,run_underlying ht,Result.andThen_ok,Sem.run_pure];rfl
  .exact h.elim
 .exact h.elim
def asg{P:Program}{a:Addr}{w:World}{K:KW}{ty:TypeId}(h:ae_ a w K):∃u w',(Instr.next (.pointer (some a)) true ty).run P w=.ok u w'/\K u w':=by
 obtain⟨h0,b,pos,hk,h⟩:=h;obtain⟨g,off,x⟩:=a;dsimp only at h0 hk h;subst h0;have any:pos<b.length->(Instr.next (.pointer (some ⟨g,0,x⟩)) true ty).run P w=.ok (.tuple #[.bool true,.int .i64 (pos:Int),.int .i32 ((Utf8.decode ⟨⟨b⟩⟩ pos).1:Int)]) (w.iterAt g ⟨⟨b⟩⟩ (pos+(Utf8.decode ⟨⟨b⟩⟩ pos).2)):=by intro hlt;have hlt':pos<(⟨⟨b⟩⟩:ByteArray).size:=hlt;simp only[Instr.next,getObj,setObj,Sem.run_bind,Sem.run,hk,Result.andThen,hlt',pq];simp[goInt,World.iterAt]
 have over:¬pos<b.length->(Instr.next (.pointer (some ⟨g,0,x⟩)) true ty).run P w=.ok (.tuple #[.bool false]) w:=by intro hlt;have hlt':¬pos<(⟨⟨b⟩⟩:ByteArray).size:=hlt;simp[Instr.next,getObj,Sem.run,hk,hlt']
 by_cases hlt:pos<b.length
 .rw[jc hlt]at h
  exact⟨_,_,any hlt,h⟩
 .rw[fY hlt]at h
  exact⟨_,_,over hlt,h⟩
def afa(w:World)(a:Addr):Prop:=∃e cells,w.shape? a.block=some (e,cells)/\a.off<cells
def afb(P:Program)(u:TypeId)(w:World)(a:Addr):Prop:=∃e cells,w.shape? a.block=some (e,cells)/\liesAt P P.depth e (cells/P.cellsOf e) a.off u 1=true
def SH(P:Program)(sr d:TypeId)(p:Option Addr)(w:World)(K:KW):Prop:=match P.underlying sr,P.underlying d with
 |some (.pointer t),some .unsafePointer=>aq (je P t&& !Nat.beq (eG P t) 0) (aE p λa=>afa w a/\K (.pointer (some a)) w) False
 |some .unsafePointer,some (.pointer u)=>aq (je P u) (aE p λa=>afb P u w a/\K (.pointer (some a)) w) False
 |_,_=>False
def adt{P:Program}{t:TypeId}(h:je P t=true):∃j,P.info? t=some j/\eG P t=j.size:=by
 unfold je at h;unfold eG;cases hj:P.info? t with
 |none=>rw[hj]at h;cases h
 |some j=>exact⟨j,rfl,rfl⟩
def aoz{P:Program}{sr d:TypeId}{p:Option Addr}{w:World}{K:KW}(h:SH P sr d p w K):∃v,K v w/\(convert sr d (.pointer p)).run P w=.ok v w:=by
 unfold SH at h;split at h
 .rename_i t hs hd
  obtain⟨hb,h⟩:=ec h;rw[e_]at hb;obtain⟨j,hj,hsz⟩:=adt hb.1;obtain⟨a,rfl,⟨e,cells,hsh,ho⟩,hk⟩:=aKd h;refine⟨_,hk,Lib.run_to_unsafe w a hs hd hj ?_ hsh ho⟩;intro h0;rw[hsz,h0]at hb;cases hb.2
 .rename_i u hs hd
  obtain⟨hb,h⟩:=ec h;obtain⟨j,hj,hsz⟩:=adt hb;obtain⟨a,rfl,⟨e,cells,hsh,ho⟩,hk⟩:=aKd h;exact⟨_,hk,Lib.run_from_unsafe w a hs hd hj hsh ho⟩
 .exact h.elim
def Mj(e:TypeId)(p:Option Addr)(n:Int)(w:World)(K:List UInt8->World->Prop):Prop:=
 ∃s:List UInt8,n=s.length/\s.length<=9223372036854775807/\((s=[]/\K s w)\/(s≠[]/\∃g cells,p=some ⟨g,0,none⟩/\w.shape? g=some (e,cells)/\s.length<=cells/\
  (∀j x,s[j]?=some x->w.cell? ((⟨g,0,none⟩:Addr).add j)=some (.int .u8 x.toNat))/\K s (w.freeze ⟨g,0,none⟩ s.length)))
def RT(P:Program)(pt:TypeId)(x n:Value)(w:World)(K:KW):Prop:=match x,n with
 |.pointer p,.int .i64 n=>match P.underlying pt with
  |some (.pointer e)=>aq (Nat.beq (P.cellsOf e) 1) (Mj e p n w λs w'=>K (.string (S s)) w') False
  |_=>False
 |_,_=>False
def anN{P:Program}{pt it ty:TypeId}{x n:Value}{w:World}{K:KW}(h:RT P pt x n w K):∃v w',(Builtin.unsafeString_ #[pt,it] ty #[x,n]).run P w=.ok v w'/\K v w':=by
 unfold RT at h;split at h
 .rename_i p n
  split at h
  .rename_i e hu
   obtain⟨hc,s,rfl,h63,⟨rfl,hk⟩|⟨h0,g,cells,rfl,hsh,hn,hcell,hk⟩⟩:=ec h
   .exact⟨_,w,Lib.run_unsafeString_none w pt it ty p,hk⟩
   .exact⟨_,_,Lib.run_unsafeString_row w pt it ty e hu (oz hc) g cells hsh s h0 hn h63 hcell,hk⟩
  .exact h.elim
 .exact h.elim
def Tc(P:Program)(g:FuncId):Prop:=∃fn,P.funcs[g]?=some fn/\(fn.name== "runtime.NumGoroutine")=false/\fn.body.isNone=true/\Extern.findNext fn=none/\Extern.find fn=some Extern.AbiNoEscape.same
def afY(P:Program)(g:FuncId)(args:List Value)(K:Value->Prop):Prop:=Tc P g/\match args with
 |[v]=>K v
 |_=>False
def av0{P:Program}{l:Fr}{ds:List Deferred}{o:Oper}{f:Operand}{xs:List Operand}{ts:Array TypeId}(ho:o.op=.call ⟨.value f,⟨xs⟩,ts⟩){g:FuncId}{first cap:List Value}
  (hf:(act l ds).eval f=.func (.func g) ⟨first⟩ ⟨cap⟩){K:Value->Prop}(h:afY P g (first++(xs.map (act l ds).eval++cap)) K)(w:World):
  ∃v,(execOp (act l ds).eval o).run P w=.ok (.value v) w/\K v:=by
 obtain⟨⟨fn,h1,h2,h3,h4,h5⟩,hk⟩:=h;split at hk
 .rename_i v hv
  refine⟨v,?_,hk⟩;simp only[execOp,ho,resolve,hf,Deferred.ofValue,invoke,Sem.run_bind,Sem.run_pure,Result.andThen_ok];have e:({toList:=first}:Array Value)++Array.map (act l ds).eval {toList:=xs}++({toList:=cap}:Array Value)=#[v]:=by apply kM;simpa using hv
  rw[e,run_callFunc_extern h1 h2 h3 h4 h5];rfl
 .exact hk.elim
def at6{P:Program}{l:Fr}{ds:List Deferred}{o:Oper}{f:Operand}{xs:List Operand}{ts:Array TypeId}(ho:o.op=.call ⟨.value f,⟨xs⟩,ts⟩){g:FuncId}{first cap:List Value}
  (hf:(act l ds).eval f=.func (.func g) ⟨first⟩ ⟨cap⟩){fn:Func}{e:Array Value->Sem Value}(h1:P.funcs[g]?=some fn)(h2:(fn.name== "runtime.NumGoroutine")=false)(h3:fn.body.isNone=true)(h4:Extern.findNext fn=none)(h5:Extern.find fn=some e){args:Array Value}{v:Value}{w w':World}
  (ha:(Array.mk (first++(xs.map (act l ds).eval++cap)))=args)(hr:(e args).run P w=.ok v w'):(execOp (act l ds).eval o).run P w=.ok (.value v) w':=by
 have e1:(⟨first⟩:Array Value)++Array.map (act l ds).eval ⟨xs⟩++⟨cap⟩=⟨first++(xs.map (act l ds).eval++cap)⟩:=by apply kM;simp
 simp only[execOp,ho,resolve,hf,Deferred.ofValue,invoke,Sem.run_bind,Sem.run_pure,Result.andThen_ok];rw[e1,run_callFunc_extern h1 h2 h3 h4 h5,ha,hr];rfl
def dN(P:Program)(t:TypeId)(m k x:Value)(w:World)(K:World->Prop):Prop:=∃w',(Instr.mapUpdate t m k x).run P w=.ok () w'/\K w'
def x_(P:Program)(t:TypeId)(m k:Value)(w:World)(K:Value->Bool->Prop):Prop:=∃(v:Value) (ok:Bool),(Instr.lookup t m k true).run P w=.ok (.tuple ⟨[v,.bool ok]⟩) w/\K v ok
def ayy(P:Program)(t ty:TypeId)(m k:Value)(w:World)(K:Value->Prop):Prop:=D5 P ty λv=>(Instr.lookup t m k false).run P w=.ok v w/\K v
def afZ(P:Program)(t u:TypeId)(m k:Value)(w:World)(K:World->Prop):Prop:=∃w',(∀ty,(Builtin.delete_ #[t,u] ty #[m,k]).run P w=.ok (.tuple #[]) w')/\K w'
def LW(P:Program)(t:TypeId)(x:Value)(w:World)(K:World->Prop):Prop:=∃w',(∀ty,(Builtin.clear_ #[t] ty #[x]).run P w=.ok (.tuple #[]) w')/\K w'
def Lx(v:Value)(w:World)(K:Nat->World->Prop):Prop:=∃(r:Nat) (es:Array MapEntry) (clock:Nat),v=.map (some r)/\w.heap[r]?=some (.map es clock)/\K w.heap.size (w.alloc (.mapIter (some r) clock #[] clock))
def LX(P:Program)(a:Addr)(w:World)(A:World->Prop)(B:Value->Value->World->Prop):Prop:=
 (∃w',(∀ty,(Instr.next (.pointer (some a)) false ty).run P w=.ok (.tuple #[.bool false]) w')/\A w')\/
 ∃k x w',(∀ty,(Instr.next (.pointer (some a)) false ty).run P w=.ok (.tuple #[.bool true,k,x]) w')/\B k x w'
def LY(P:Program)(t:TypeId):Bool:=match P.underlying t with
 |some (.map _ _)=>true
 |_=>false
def aql{P:Program}{t:TypeId}(h:LY P t=true):∃k e,P.underlying t=some (.map k e):=by
 unfold LY at h;split at h
 .exact⟨_,_,by assumption⟩
 .cases h
def adu(P:Program)(t:TypeId):Bool:=match P.underlying t with
 |some (.map _ e)=>match HI P e with
  |.leaf .raw=>true
  |_=>false
 |_=>false
def Mk(d:Option Nat)(i:Nat):List Oper->Option TypeId
 |[]=>none
 |o::r=>match o.op,d with
  |.extract (.tmp t) j,some d=>bif Nat.beq t d&&Nat.beq i j then some o.type else Mk (some d) i r
  |_,d=>Mk d i r
def Ul(P:Program):Option TypeId->(Value->Prop)->Prop
 |some t,K=>MI (HI P t) K
 |none,K=>∃v:Value,K v
def abl{P:Program}{x:Option TypeId}{K:Value->Prop}(h:Ul P x K):∃v,K v:=by
 cases x with
 |none=>exact h
 |some t=>exact SD h
def aeg(P:Program)(a:Addr)(t u:Option TypeId)(w:World)(K:Value->Value->Prop):Prop:=
 Ul P t λk=>Ul P u λx=>(Instr.entry (.pointer (some a))).run P w=.ok (.tuple #[k,x]) w/\K k x
def aqm{P:Program}{a:Addr}{t u:Option TypeId}{w:World}{K:Value->Value->Prop}(h:aeg P a t u w K):∃k x,(Instr.entry (.pointer (some a))).run P w=.ok (.tuple #[k,x]) w/\K k x:=by obtain⟨k,h⟩:=abl h;obtain⟨x,h⟩:=abl h;exact⟨k,x,h⟩
def Lp(P:Program)(g:FuncId):Prop:=∃fn,P.funcs[g]?=some fn/\(fn.name== "runtime.NumGoroutine")=false/\fn.body.isNone=true/\Extern.findNext fn=none/\Extern.find fn=some Extern.MapsClone.clone
def afc(P:Program)(g:FuncId)(args:List Value)(w:World)(K:KW):Prop:=match args with
 |[.iface t (.map p)]=>Lp P g/\aE p λr=>∃(es:Array MapEntry) (clock:Nat),w.heap[r]?=some (.map es clock)/\K (.iface t (.map (some w.heap.size))) (w.alloc (.map es clock))
 |args=>afY P g args λv=>K v w
def aIP(P:Program)(l:Fr)(o:Oper)(w:World)(K:KW)(E:List PanicEntry->World->Prop):Prop:=match o.op with
 |.alloc e=>aq (zY P e) (K (.pointer (some ⟨w.heap.size,0,none⟩)) (w.alloc (.cells ⟨zeroOf P e⟩ e))) False
 |.box e x=>cS l x λv=>aq (zZ P e) (aq v.oneCell' (K (.pointer (some ⟨w.heap.size,0,none⟩)) (w.alloc (.cells ⟨[v]⟩ e))) False) (K (.pointer (some ⟨w.heap.size,0,none⟩)) (w.alloc (.cells ⟨cellsOf v⟩ e)))
 |.store t a x=>cS l a λa=>cS l x λv=>yy a λa=>G4 P t a (TO P t v) w λw'=>K undef w'
 |.makeSlice t n c=>cS l n λn=>cS l c λc=>ae9 P t n c w K
 |.buildSlice t len ⟨parts⟩=>LV l parts λps=>aKW P t len ps w K
 |.panic x=>cS l x λv=>match v with
  |.iface t u=>E [{v:=.iface t u,recovered:=false}] w
  |_=>False
 |.makeMap _ none=>K (.map (some w.heap.size)) (w.alloc (.map #[] 0))
 |.mapUpdate t m k x=>cS l m λm=>cS l k λk=>cS l x λx=>dN P t m k x w λw'=>K undef w'
 |.insert t m k x=>cS l m λm=>cS l k λk=>cS l x λx=>dN P t m k x w λw'=>K undef w'
 |.lookup t x i true=>cS l x λx=>cS l i λi=>aq (adu P t) (x_ P t x i w λv ok=>K (.tuple ⟨[v,.bool ok]⟩) w) (D5 P o.type λv=>(Instr.lookup t x i true).run P w=.ok v w/\K v w)
 |.lookup t x i false=>cS l x λx=>cS l i λi=>ayy P t o.type x i w λv=>K v w
 |.call ⟨.builtin .append,⟨xs⟩,⟨ts⟩⟩=>match ts,xs with
  |[t,u],[s,x]=>cS l s λs=>cS l x λx=>aK3 P t u s x w K
  |_,_=>False
 |.call ⟨.builtin .delete,⟨xs⟩,⟨ts⟩⟩=>match ts,xs with
  |[t,u],[m,k]=>cS l m λm=>cS l k λk=>afZ P t u m k w λw'=>K (.tuple ⟨[]⟩) w'
  |_,_=>False
 |.call ⟨.builtin .clear,⟨xs⟩,⟨ts⟩⟩=>match ts,xs with
  |[t],[x]=>cS l x λx=>LW P t x w λw'=>K (.tuple ⟨[]⟩) w'
  |_,_=>False
 |.call ⟨.builtin .copy,⟨xs⟩,⟨ts⟩⟩=>match ts,xs with
  |[t,_],[d,s]=>cS l d λd=>cS l s λs=>copyV P t d s w K
  |_,_=>False
 |.call ⟨.builtin .unsafeString,⟨xs⟩,⟨ts⟩⟩=>match ts,xs with
  |[pt,_],[x,n]=>cS l x λx=>cS l n λn=>RT P pt x n w K
  |_,_=>False
 |.call ⟨.value f0,⟨xs⟩,_⟩=>cS l f0 λf=>gj f λg first cap=>wg l xs λvs=>aq (cY P g)
   (Calls P g ⟨first++(vs++cap)⟩ w λe w'=>(D5 P o.type λv=>e=.returned v/\K v w')\/∃c,e=.panicked c/\E c w') (match f0 with
    |.func _=>afc P g (first++(vs++cap)) w K
    |_=>False)
 |.convert sr d x=>cS l x λv=>match v with
  |.string ⟨⟨b⟩⟩=>match P.underlying d with
   |some (.slice _)=>SG P d sr b w K
   |_=>D8 P sr d (.string ⟨⟨b⟩⟩) (λa v=>w.cell? a=some v) λv=>K v w
  |.pointer p=>SH P sr d p w K
  |v=>D8 P sr d v (λa v=>w.cell? a=some v) λv=>K v w
 |.range t x=>cS l x λv=>aq (LY P t) (Lx v w λb w'=>K (.pointer (some ⟨b,0,none⟩)) w') (TP P t v w K)
 |.next it true=>cS l it λv=>yy v λa=>ae_ a w K
 |.next it false=>cS l it λv=>yy v λa=>LX P a w (λw'=>K (.tuple ⟨[.bool false]⟩) w') λk x w'=>K (.tuple ⟨[.bool true,k,x]⟩) w'
 |_=>u7 P l o (λa v=>w.cell? a=some v) λv=>K v w
def pF{s:Sem Value}{P:Program}{v:Value}{w w':World}(h:s.run P w=.ok v w'):(do pure (Next.value (<-s)):Sem Next).run P w=.ok (.value v) w':=by simp only[Sem.run_bind,h,Result.andThen_ok,Sem.run_pure]
def Lc{P:Program}{l:Fr}{ds:List Deferred}{o:Oper}{w:World}{K:KW}{E:List PanicEntry->World->Prop}{next:Act->World->Prop}{Q:Exit->Act->World->Prop}
  (h:aIP P l o w K E)(hK:∀v w',K v w'->next ((act l ds).put o.dst v) w')(hE:∀c w',E c w'->Q (.panic c) (act l ds) w'):o.wp P (act l ds) w next Q:=by
 have value:∀v w',(execOp (act l ds).eval o).run P w=.ok (.value v) w'->K v w'->o.wp P (act l ds) w next Q:=by intro v w' hr hk;unfold Oper.wp;rw[hr];exact hK v w' hk
 unfold aIP at h;split at h
 .rename_i e ho
  obtain⟨hz,h⟩:=ec h;obtain⟨z,hz1,hr⟩:=Lo hz;refine value _ _ ?_ h;simp only[execOp,ho];refine pF ?_;simp only[Instr.alloc,Sem.run_bind,hr,Result.andThen_ok,newVar,newRow,vK,hz1,Sem.run_pure];rfl
 .rename_i e x ho
  have h:=cO (ds:=ds) h;have h:K (.pointer (some ⟨w.heap.size,0,none⟩)) (w.alloc (.cells ⟨cellsOf ((act l ds).eval x)⟩ e)):=by
   rw[aHL]at h;cases hs:zZ P e with
   |false=>exact h.2 hs
   |true=>obtain⟨hv,h⟩:=ec (h.1 hs);rw[RE hv];exact h
  refine value _ _ ?_ h;simp only[execOp,ho];refine pF ?_;simp only[Instr.box,Sem.run_bind,Result.andThen_ok,newVar,newRow,vK,Sem.run_pure];rfl
 .rename_i t a x ho
  have h:=cO (ds:=ds) (cO (ds:=ds) h);obtain⟨a',ha,h⟩:=BG h;obtain⟨w',hr,hk⟩:=aqi (aqj h);unfold Oper.wp;simp only[execOp,ho,Instr.storeAt,ha,Instr.sureAddr,Sem.run_bind,Sem.run_pure,Result.andThen_ok,hr];exact hK _ _ hk
 .rename_i t n c ho
  obtain⟨v,w',hr,hk⟩:=ase (cO (ds:=ds) (cO (ds:=ds) h));refine value v w' ?_ hk;simp only[execOp,ho];simp only[Sem.run_bind,hr,Result.andThen_ok,Sem.run_pure]
 .rename_i t len parts ho
  obtain⟨v,w',hr,hk⟩:=anr (aam (ds:=ds) h);refine value v w' ?_ hk;simp only[execOp,ho,aJw];simp only[Sem.run_bind];have hr':(Instr.buildSlice t len (List.map (λx:Nat×Operand=>(x.1,(act l ds).eval x.2)) parts).toArray).run P w=.ok v w':=hr;rw[hr'];rfl
 .rename_i x ho
  have h:=cO (ds:=ds) h;split at h
  .rename_i y t u hx
   unfold Oper.wp;simp only[execOp,ho,hx,Instr.panic,goPanic,Sem.run_bind,Sem.run_halt,Result.andThen_halt];exact hE _ _ h
  .exact h.elim
 .rename_i t ho
  refine value _ _ ?_ h;simp only[execOp,ho];refine pF ?_;simp only[Instr.makeMap,QC,newObj,Sem.run_bind,Sem.run_pure,Result.andThen_ok];rfl
 .rename_i t m k x ho
  obtain⟨w',hr,hk⟩:=cO (ds:=ds) (cO (ds:=ds) (cO (ds:=ds) h));unfold Oper.wp;simp only[execOp,ho,Sem.run_bind,Sem.run_pure,Result.andThen_ok,hr];exact hK _ _ hk
 .rename_i t m k x ho
  obtain⟨w',hr,hk⟩:=cO (ds:=ds) (cO (ds:=ds) (cO (ds:=ds) h));unfold Oper.wp;simp only[execOp,ho,Sem.run_bind,Sem.run_pure,Result.andThen_ok,hr];exact hK _ _ hk
 .rename_i t x i ho
  have h:=cO (ds:=ds) (cO (ds:=ds) h);rw[aHL]at h;cases hb:adu P t with
  |true=>obtain⟨v,ok,hr,hk⟩:=h.1 hb;refine value _ w ?_ hk;simp only[execOp,ho];exact pF hr
  |false=>obtain⟨v,hr,hk⟩:=Lb (h.2 hb);refine value _ w ?_ hk;simp only[execOp,ho];exact pF hr
 .rename_i t x i ho
  obtain⟨v,hr,hk⟩:=Lb (cO (ds:=ds) (cO (ds:=ds) h));refine value _ w ?_ hk;simp only[execOp,ho];exact pF hr
 .rename_i xs ts ho
  split at h
  .rename_i t u s x
   obtain⟨v,w',hr,hk⟩:=apf (ty:=o.type) (cO (ds:=ds) (cO (ds:=ds) h));refine value v w' ?_ hk;simp only[execOp,ho,resolve,invoke,builtin,Sem.run_bind,Sem.run_pure,Result.andThen_ok,aJw,gi,qR,hr]
  .exact h.elim
 .rename_i xs ts ho
  split at h
  .rename_i t u m k
   obtain⟨w',hr,hk⟩:=cO (ds:=ds) (cO (ds:=ds) h);refine value _ w' ?_ hk;simp only[execOp,ho,resolve,invoke,builtin,Sem.run_bind,Sem.run_pure,Result.andThen_ok,aJw,gi,qR,hr]
  .exact h.elim
 .rename_i xs ts ho
  split at h
  .rename_i t x
   obtain⟨w',hr,hk⟩:=cO (ds:=ds) h;refine value _ w' ?_ hk;simp only[execOp,ho,resolve,invoke,builtin,Sem.run_bind,Sem.run_pure,Result.andThen_ok,aJw,gi,qR,hr]
  .exact h.elim
 .rename_i xs ts ho
  split at h
  .rename_i t t' d s
   obtain⟨v,w',hr,hk⟩:=asf (t2:=t') (ty:=o.type) (cO (ds:=ds) (cO (ds:=ds) h));refine value v w' ?_ hk;simp only[execOp,ho,resolve,invoke,builtin,Sem.run_bind,Sem.run_pure,Result.andThen_ok,aJw,gi,qR,hr]
  .exact h.elim
 .rename_i xs ts ho
  split at h
  .rename_i pt it x n
   obtain⟨v,w',hr,hk⟩:=anN (it:=it) (ty:=o.type) (cO (ds:=ds) (cO (ds:=ds) h));refine value v w' ?_ hk;simp only[execOp,ho,resolve,invoke,builtin,Sem.run_bind,Sem.run_pure,Result.andThen_ok,aJw,gi,qR,hr]
  .exact h.elim
 .rename_i f xs ts ho
  obtain⟨g,first,cap,hf,h⟩:=Ga (cO (ds:=ds) h);have h:=aKg (ds:=ds) h;rw[aHL]at h;cases hc:cY P g with
  |true=>
   have h:=h.1 hc;unfold Oper.wp;rw[acu ho hf hc];refine Calls.mono h ?_;rintro e w' (h|⟨c,rfl,h⟩)
   .obtain⟨v,rfl,hk⟩:=Lb h
    exact hK v w' hk
   .exact hE c w' h
  |false=>
   have h:=h.2 hc;split at h
   .unfold afc at h
    split at h
    .rename_i t p hargs
     obtain⟨⟨fn,h1,h2,h3,h4,h5⟩,h⟩:=h;obtain⟨r,rfl,es,clock,hb,hk⟩:=aKd h;refine value _ _ ?_ hk;have e:(#[]:Array Value)=⟨[]⟩:=rfl;have axl:(Array.mk (first++(xs.map (act l ds).eval++cap)))=#[.iface t (.map (some r))]:=by rw[hargs]
     have hcl:(Extern.MapsClone.clone #[.iface t (.map (some r))]).run P w=.ok (.iface t (.map (some w.heap.size))) (w.alloc (.map es clock)):=by
      have e:Extern.MapsClone.clone #[.iface t (.map (some r))]=(getObj r>>=λo=>match o with
       |.map entries clock=>(newObj (.map entries clock)>>=λn=>pure (.iface t (.map (some n))))
       |_=>stuck "maps.clone: a map expected"):=rfl
      rw[e];simp[MapKept.run_getObj_map hb,Result.andThen,go_sem]
     exact at6 ho hf h1 h2 h3 h4 h5 axl hcl
    .obtain⟨v,hr,hk⟩:=av0 ho hf h w
     exact value v w hr hk
   .exact h.elim
 .rename_i sr d x ho
  have h:=cO (ds:=ds) h;have quiet:D8 P sr d ((act l ds).eval x) (λa v=>w.cell? a=some v) (λv=>K v w)->o.wp P (act l ds) w next Q:=by intro h;obtain⟨v,hk,hr⟩:=abg (P:=P) h;exact value v w (by simp only[execOp,ho];exact pF (hr w λa u h=>h)) hk
  split at h
  .rename_i b hx
   split at h
   .obtain⟨v,w',hr,hk⟩:=aoy h
    refine value v w' ?_ hk;simp only[execOp,ho,hx];exact pF hr
   .exact quiet (by rw[hx];exact h)
  .rename_i p hx
   obtain⟨v,hk,hr⟩:=aoz h;refine value v w ?_ hk;simp only[execOp,ho,hx];exact pF hr
  .exact quiet h
 .rename_i t x ho
  have h:=cO (ds:=ds) h;rw[aHL]at h;cases hm:LY P t with
  |true=>obtain⟨k,e,hu⟩:=aql hm;obtain⟨r,es,clock,hx,hb,hk⟩:=h.1 hm;refine value _ _ ?_ hk;simp only[execOp,ho,hx];exact pF (run_range_map w t k e r es clock hu hb)
  |false=>obtain⟨v,w',hr,hk⟩:=aqk (h.2 hm);refine value v w' ?_ hk;simp only[execOp,ho];exact pF hr
 .rename_i it ho
  have h:=cO (ds:=ds) h;obtain⟨a,ha,h⟩:=BG h;obtain⟨v,w',hr,hk⟩:=asg (ty:=o.type) h;refine value v w' ?_ hk;simp only[execOp,ho,ha];exact pF hr
 .rename_i it ho
  have h:=cO (ds:=ds) h;obtain⟨a,ha,h⟩:=BG h;rcases h with⟨w',hr,hk⟩|⟨k,x,w',hr,hk⟩
  .refine value _ w' ?_ hk
   simp only[execOp,ho,ha];exact pF (hr _)
  .refine value _ w' ?_ hk
   simp only[execOp,ho,ha];exact pF (hr _)
 .obtain⟨v,hk,hr⟩:=DR (ds:=ds) h
  exact value v w (hr w λa u h=>h) hk
def ML(P:Program)(r:List Oper)(l:Fr)(o:Oper)(w:World)(K:KW)(E:List PanicEntry->World->Prop):Prop:=match o.op with
 |.entry it=>cS l it λv=>yy v λa=>aeg P a (Mk o.dst 0 r) (Mk o.dst 1 r) w λk x=>K (.tuple ⟨[k,x]⟩) w
 |_=>aIP P l o w K E
def RU{P:Program}{r:List Oper}{l:Fr}{ds:List Deferred}{o:Oper}{w:World}{K:KW}{E:List PanicEntry->World->Prop}{next:Act->World->Prop}{Q:Exit->Act->World->Prop}
  (h:ML P r l o w K E)(hK:∀v w',K v w'->next ((act l ds).put o.dst v) w')(hE:∀c w',E c w'->Q (.panic c) (act l ds) w'):o.wp P (act l ds) w next Q:=by
 unfold ML at h;split at h
 .rename_i it ho
  have h:=cO (ds:=ds) h;obtain⟨a,ha,h⟩:=BG h;obtain⟨k,x,hr,hk⟩:=aqm h;have hx:(execOp (act l ds).eval o).run P w=.ok (.value (.tuple #[k,x])) w:=by simp only[execOp,ho,ha];exact pF hr
  unfold Oper.wp;rw[hx];exact hK _ _ hk
 .exact Lc h hK hE
def cP(w:World)(C:World->Prop):Prop:=C w
def eW(w:World)(e:TypeId)(sz bytes:Nat)(p:Option Addr)(n c:Nat)(q:Option Addr)(m:Nat)(K:Option Addr->Nat->World->Prop):Prop:=
 ∃xs news:List Value,aS w 0 e sz (.slice p n c) n xs/\news.length=m*sz/\(∀u∈news,u.oneCell'=true)/\
  (0<m->∃a,q=some a/\∀j u,news[j]?=some u->w.cell? (a.add j)=some u)/\n+m<=9223372036854775807/\(n+m)*bytes<=140737488355328/\
  ∀(p':Option Addr) (c':Nat) (w':World),aS w' 0 e sz (.slice p' (n+m) c') (n+m) (xs++news)->w.grownBy w' (Value.slice p n c).ownBlock->
   oh p p' (n+m) c c' w.heap.size->K p' c' w'
def af0(w:World)(e:TypeId)(sz bytes:Nat)(p:Option Addr)(n c:Nat)(b:List UInt8)(K:Option Addr->Nat->World->Prop):Prop:=
 ∃xs:List Value,aS w 0 e sz (.slice p n c) n xs/\n+b.length<=9223372036854775807/\(n+b.length)*bytes<=140737488355328/\
  ∀(p':Option Addr) (c':Nat) (w':World),aS w' 0 e sz (.slice p' (n+b.length) c') (n+b.length) (xs++b.map (λb=>Value.int .u8 b.toNat))->w.grownBy w' (Value.slice p n c).ownBlock->
   oh p p' (n+b.length) c c' w.heap.size->K p' c' w'
def aHe(ws:List Nat)(l l':Fr):Prop:=l'.length=l.length/\∀t,t∉ws->l'[t]?=l[t]?
def aHe.refl(ws:List Nat)(l:Fr):aHe ws l l:=⟨rfl,λ_ _=>rfl⟩
def aHe.trans{ws vs us:List Nat}{a b c:Fr}(h:aHe ws a b)(k:aHe vs b c)(hw:∀t∈ws,t∈us)(hv:∀t∈vs,t∈us):aHe us a c:=
 ⟨k.1.trans h.1,λt ht=>(k.2 t λe=>ht (hv t e)).trans (h.2 t λe=>ht (hw t e))⟩
def aHe.mono{ws us:List Nat}{a b:Fr}(h:aHe ws a b)(hw:∀t∈ws,t∈us):aHe us a b:=⟨h.1,λt ht=>h.2 t λe=>ht (hw t e)⟩
def aHe.put(l:Fr)(d:Option Nat)(v:Value):aHe d.toList l (put l d v):=by
 cases d with
 |none=>exact aHe.refl _ _
 |some d=>refine⟨by simp[Vc.put],λt ht=>?_⟩;have:d≠t:=λe=>ht (by simp[e]);simp[Vc.put,rN this]
def aHB(ops:List Oper):List Nat:=ops.flatMap λo=>o.dst.toList
def xR(ops:List Oper)(l:Fr)(g:Option (Nat×Bool))(A B:Fr->Prop):Prop:=match g with
 |none=>A l
 |some (j,want)=>match ops[j]? with
  |some o=>match o.dst with
   |some d=>tD l d λv=>match v with
    |.bool b=>aq b (su l d (.bool true) λl'=>aq want (A l') (B l')) (su l d (.bool false) λl'=>aq want (B l') (A l'))
    |.tuple _=>B l
    |_=>False
   |none=>False
  |none=>False
def Gz{l:Fr}{d:Nat}{v:Value}(h:l[d]?=some v):l.set d v=l:=by
 apply qO;intro i
 by_cases hi:d=i
 .subst hi
  have hd:=(iw.1 h).1;rw[sX hd,h]
 .rw[rN hi]
def xe{ops:List Oper}{l:Fr}{ds:List Deferred}{o:Oper}{A B:Fr->Prop}(h:xR ops l o.guard A B):
  (Region.wanted o (yielded ⟨ops⟩ (act l ds).tmps)=true/\A l)\/(Region.wanted o (yielded ⟨ops⟩ (act l ds).tmps)=false/\B l):=by
 unfold xR at h;split at h
 .rename_i hg
  exact .inl ⟨by simp[Region.wanted,hg],h⟩
 .rename_i j want hg
  split at h
  .rename_i oj hj
   split at h
   .rename_i d hd
    obtain⟨v,hv,h⟩:=xA h;split at h
    .rename_i b
     have hy:yielded ⟨ops⟩ (act l ds).tmps j=some b:=by simp[yielded,hj,hd,act,hv]
     rw[aHL]at h;cases b with
     |true=>
      have h2:=BF (h.1 rfl);rw[Gz hv]at h2;rw[aHL]at h2;cases want with
      |true=>exact .inl ⟨by simp[Region.wanted,hg,hy],h2.1 rfl⟩
      |false=>exact .inr ⟨by simp[Region.wanted,hg,hy],h2.2 rfl⟩
     |false=>
      have h2:=BF (h.2 rfl);rw[Gz hv]at h2;rw[aHL]at h2;cases want with
      |true=>exact .inr ⟨by simp[Region.wanted,hg,hy],h2.1 rfl⟩
      |false=>exact .inl ⟨by simp[Region.wanted,hg,hy],h2.2 rfl⟩
    .have hy:yielded ⟨ops⟩ (act l ds).tmps j=none:=by
      simp[yielded,hj,hd,act,hv]
     exact .inr ⟨by simp[Region.wanted,hg,hy],h⟩
    .exact h.elim
   .exact h.elim
  .exact h.elim
def uG(P:Program)(ops:List Oper)(K:Fr->World->Prop)(E:List PanicEntry->World->Prop):List Oper->Fr->World->Prop
 |[],l,w=>K l w
 |o::r,l,w=>xR ops l o.guard (λl=>ML P r l o w (λv w'=>aIo l o.dst v λl'=>uG P ops K E r l' w') E) (λl=>aIo l o.dst undef λl'=>uG P ops K E r l' w)
def ZQ{P:Program}{ops:List Oper}{ds:List Deferred}{K:Fr->World->Prop}{E:List PanicEntry->World->Prop}{Q:Exit->Act->World->Prop}
  :∀{rest:List Oper} {l:Fr} {w:World},(∀l' c w',aHe (aHB rest) l l'->E c w'->Q (.panic c) (act l' ds) w')->uG P ops K E rest l w->
   (∀l' w',aHe (aHB rest) l l'->K l' w'->Q .normal (act l' ds) w')->wpList P ⟨ops⟩ Q rest (act l ds) w:=by
 intro rest
 induction rest with
 |nil=>intro l w hE h hK;exact hK l w (aHe.refl _ _) h
 |cons o r ih=>
  intro l w hE h hK;have next:∀v w',uG P ops K E r (put l o.dst v) w'->wpList P ⟨ops⟩ Q r ((act l ds).put o.dst v) w':=by
   intro v w' h;rw[vS];have step:∀{l':Fr},aHe (aHB r) (put l o.dst v) l'->aHe (aHB (o::r)) l l':=by intro l' ha;exact(aHe.put l o.dst v).trans ha (λt ht=>by simp only[aHB,aIj,mE];exact .inl ht) (λt ht=>by simp only[aHB,aIj,mE];exact .inr ht)
   refine ih (λl' c w' ha he=>hE l' c w' (step ha) he) h λl' w' ha hk=>hK l' w' ?_ hk;exact(aHe.put l o.dst v).trans ha (λt ht=>by simp only[aHB,aIj,mE];exact .inl ht) (λt ht=>by simp only[aHB,aIj,mE];exact .inr ht)
  unfold wpList;rcases xe (ds:=ds) h with⟨hw,h⟩|⟨hw,h⟩
  .rw[aN hw]
   exact .inl (RU h (λv w' hk=>next v w' (l_ hk)) (λc w' he=>hE l c w' (aHe.refl _ _) he))
  .rw[aH (by simp[hw])]
   exact next undef w (l_ h)
def qOp(P:Program)(Rd:Addr->Value->Prop)(Cl:FuncId->List Value->Value->Prop)(l:Fr)(o:Oper)(K:Value->Prop):Prop:=match o.op with
 |.call ⟨.value f,⟨xs⟩,_⟩=>cS l f λf=>gj f λg first cap=>wg l xs λvs=>aq (cY P g) (D5 P o.type λv=>Cl g (first++(vs++cap)) v/\K v) False
 |_=>u7 P l o Rd K
def adv{P:Program}{Rd:Addr->Value->Prop}{Cl:FuncId->List Value->Value->Prop}{l:Fr}{ds:List Deferred}{o:Oper}{K:Value->Prop}(h:qOp P Rd Cl l o K):
  ∃v,K v/\((∀w,Cc Rd w->(execOp (act l ds).eval o).run P w=.ok (.value v) w)\/∃g args,Cl g args v/\∀w,(execOp (act l ds).eval o).run P w=.ok (.enter g ⟨args⟩) w):=by
 unfold qOp at h;split at h
 .rename_i f xs ts ho
  obtain⟨g,first,cap,hf,h⟩:=Ga (cO (ds:=ds) h);obtain⟨hc,h⟩:=ec (aKg (ds:=ds) h);obtain⟨v,h1,h2⟩:=Lb h;exact⟨v,h2,.inr ⟨_,_,h1,λw=>acu ho hf hc w⟩⟩
 .obtain⟨v,hk,hr⟩:=DR (ds:=ds) h
  exact⟨v,hk,.inl hr⟩
def AB(P:Program)(ops:List Oper)(Rd:Addr->Value->Prop)(Cl:FuncId->List Value->Value->Prop)(K:Fr->Prop):List Oper->Fr->Prop
 |[],l=>K l
 |o::r,l=>xR ops l o.guard (λl=>qOp P Rd Cl l o λv=>aIo l o.dst v λl'=>AB P ops Rd Cl K r l') (λl=>aIo l o.dst undef λl'=>AB P ops Rd Cl K r l')
def Se{l l':Fr}{o:Oper}{r:List Oper}{v:Value}(ha:aHe (aHB r) (put l o.dst v) l'):aHe (aHB (o::r)) l l':=
 (aHe.put l o.dst v).trans ha (λt ht=>by simp only[aHB,aIj,mE];exact .inl ht) (λt ht=>by simp only[aHB,aIj,mE];exact .inr ht)
def aqn{P:Program}{ops:List Oper}{ds:List Deferred}{Rd:Addr->Value->Prop}{Cl:FuncId->List Value->Value->Prop}{C:World->Prop}{K:Fr->Prop}{Q:Act->Prop}
  (hR:∀w,C w->Cc Rd w)(hC:∀g args v,Cl g args v->∀w,C w->Calls P g ⟨args⟩ w λe w'=>e=.returned v/\C w'):
  ∀{rest:List Oper} {l:Fr},AB P ops Rd Cl K rest l->(∀l',aHe (aHB rest) l l'->K l'->Q (act l' ds))->wpQuiet P ⟨ops⟩ C Q rest (act l ds):=by
 intro rest
 induction rest with
 |nil=>intro l h hK;exact hK l (aHe.refl _ _) h
 |cons o r ih=>
  intro l h hK;have next:∀v,AB P ops Rd Cl K r (put l o.dst v)->wpQuiet P ⟨ops⟩ C Q r ((act l ds).put o.dst v):=by intro v h;rw[vS];exact ih h λl' ha hk=>hK l' (Se ha) hk
  unfold wpQuiet;rcases xe (ds:=ds) h with⟨hw,h⟩|⟨hw,h⟩
  .rw[aN hw]
   obtain⟨v,hk,hr⟩:=adv (ds:=ds) h;refine⟨v,λw hw=>?_,next v (l_ hk)⟩;unfold Oper.quietAt;rcases hr with hr|⟨g,args,hcl,hr⟩
   .rw[hr w (hR w hw)];exact⟨rfl,rfl⟩
   .rw[hr w];exact⟨rfl,hC g args v hcl w hw⟩
  .rw[aH (by simp[hw])]
   exact next undef (l_ h)
def aqo{P:Program}{ops:List Oper}{ds:List Deferred}{Rd:Addr->Value->Prop}{Cl:FuncId->List Value->Value->Prop}{w:World}{K:Fr->Prop}{Q:Act->Prop}
  (hR:Cc Rd w)(hC:∀g args v,Cl g args v->Calls P g ⟨args⟩ w λe w'=>e=.returned v/\w'=w):
  ∀{rest:List Oper} {l:Fr},AB P ops Rd Cl K rest l->(∀l',aHe (aHB rest) l l'->K l'->Q (act l' ds))->wpStill P ⟨ops⟩ w Q rest (act l ds):=by
 intro rest
 induction rest with
 |nil=>intro l h hK;exact hK l (aHe.refl _ _) h
 |cons o r ih=>
  intro l h hK;have next:∀v,AB P ops Rd Cl K r (put l o.dst v)->wpStill P ⟨ops⟩ w Q r ((act l ds).put o.dst v):=by intro v h;rw[vS];exact ih h λl' ha hk=>hK l' (Se ha) hk
  unfold wpStill;rcases xe (ds:=ds) h with⟨hw,h⟩|⟨hw,h⟩
  .rw[aN hw]
   obtain⟨v,hk,hr⟩:=adv (ds:=ds) h;unfold Oper.still;rcases hr with hr|⟨g,args,hcl,hr⟩
   .rw[hr w hR];exact⟨rfl,next v (l_ hk)⟩
   .rw[hr w];exact⟨rfl,v,hC g args v hcl,next v (l_ hk)⟩
  .rw[aH (by simp[hw])]
   exact next undef (l_ h)
def Ad:Op->Bool
 |.load .. |.convert .. =>true
 |_=>false
def Lz:Op->Bool
 |.move _|.assign _|.pick .. |.load .. |.nilCheck _|.binOp .. |.unOp .. |.convert .. |.slice .. |.fieldAddr .. |.field .. |.indexAddr .. |.index .. |.extract .. |.makeInterface .. |.makeFunc .. |.build .. =>true
 |.call ⟨.builtin .len,_,_⟩|.call ⟨.builtin .cap,_,_⟩|.call ⟨.builtin .max,_,_⟩|.call ⟨.builtin .min,_,_⟩=>true
 |_=>false
def oD(ops:List Oper)(i:Nat):Bool:=match ops[i]? with
 |some o=>Ad o.op
 |none=>false
def MM(ops:List Oper):Nat->Nat->Nat->Bool
 |0,_,_=>false
 |n+1,j,i=>match ops[j]? with
  |some o=>o.after.toList.any λe=>Region.binds .any e&&(Nat.beq e.on i||MM ops n e.on i)
  |none=>false
def aIJ(ops:List Oper)(j:Nat):Bool:=(List.range ops.length).any λi=>oD ops i&& !Nat.beq i j&& !MM ops ops.length j i
def Ae(ops:List Oper)(listed:Array Bool):Prop:=∀j o,ops[j]?=some o->listed.getD j false=true->∀e∈o.after,Region.binds .any e=true->listed.getD e.on false=true
def aqp{ops:List Oper}{listed:Array Bool}{i:Nat}(hc:Ae ops listed)(hi:listed.getD i false=false):∀(n j:Nat),(listed.getD j false=true\/j∈Region.ready .any ⟨ops⟩ listed)->MM ops n j i=false:=by
 intro n
 induction n with
 |zero=>intro j _;rfl
 |succ n ih=>
  intro j hj;unfold MM;cases ho:ops[j]? with
  |none=>rfl
  |some o=>
   have hall:∀e∈o.after,Region.binds .any e=true->listed.getD e.on false=true:=by
    rcases hj with hj|hj
    .exact hc j o ho hj
    .obtain⟨_,o',ho',hall⟩:=mem_ready.1 hj
     have:o'=o:=by
      have h2:ops[j]?=some o':=by simpa using ho'
      rw[ho]at h2;exact(bO h2).symm
     subst this;exact hall
   simp only;rw[List.any_eq_false];intro e he hb;rw[e_]at hb;have hl:=hall e (by simpa using he) hb.1;rw[QD]at hb;rcases hb.2 with hb|hb
   .have:=oz hb
    rw[this,hi]at hl;cases hl
   .rw[ih e.on (.inl hl)]at hb
    cases hb
def DE{ops:List Oper}{listed:Array Bool}{j:Nat}(hc:Ae ops listed)(hj:j∈Region.ready .any ⟨ops⟩ listed):Ae ops (listed.setIfInBounds j true):=by
 intro k o hk hl e he hb
 by_cases hkj:k=j
 .subst hkj
  obtain⟨_,o',ho',hall⟩:=mem_ready.1 hj;have:o'=o:=by
   have h2:ops[k]?=some o':=by simpa using ho'
   rw[hk]at h2;exact(bO h2).symm
  subst this;exact getD_set_true (hall e he hb)
 .rw[getD_set_ne false (Gp hkj)]at hl
  exact getD_set_true (hc k o hk hl e he hb)
def at7{listed:Array Bool}{i:Nat}(h:listed.getD i true=false):listed.getD i false=false:=by
 rcases w_ i listed.size with h'|h'
 .simp[h']at h⊢;exact h
 .simp[Pb h']at h
def LA{ops:List Oper}{listed:Array Bool}{i j:Nat}(hc:Ae ops listed)(hi:listed.getD i true=false)(hne:j≠i)(hl:oD ops i=true)(hj:j∈Region.ready .any ⟨ops⟩ listed):aIJ ops j=true:=by
 unfold aIJ;rw[List.any_eq_true];have hlt:i<ops.length:=by
  unfold oD at hl;split at hl
  .rename_i o ho;exact(iw.1 ho).1
  .cases hl
 refine⟨i,aJz.2 hlt,?_⟩;rw[e_,e_];refine⟨⟨hl,?_⟩,?_⟩
 .cases hb:Nat.beq i j with
  |false=>rfl
  |true=>exact(hne (oz hb).symm).elim
 .rw[aqp hc (at7 hi) _ j (.inr hj)];rfl
def qY(ops:List Oper)(i:Nat):Bool:=match ops[i]? with
 |some o=>Lz o.op
 |none=>false
def Ml(ops:List Oper)(S:World->Prop)(i:Nat)(w w':World):Prop:=(qY ops i=true->w'=w)/\(qY ops i=false->aIJ ops i=true->S w')
def BR(P:Program)(ops:List Oper)(Q:Exit->Act->World->Prop)(S:World->Prop):Nat->Array Bool->Act->World->Prop
 |0,listed,a,w=>Region.ready .any ⟨ops⟩ listed=[]/\Q .normal a w
 |fuel+1,listed,a,w=>
  (Region.ready .any ⟨ops⟩ listed=[]->Q .normal a w)/\
  ∀i∈Region.ready .any ⟨ops⟩ listed,wpOp P ⟨ops⟩ Q i (λa' w'=>Ml ops S i w w'/\BR P ops Q S fuel (listed.setIfInBounds i true) a' w') a w
section
variable{P:Program}{ops:List Oper}{Q:Exit->Act->World->Prop}{S:World->Prop}
def aan:∀(fuel:Nat) (listed:Array Bool) (a:Act) (w:World),BR P ops Q S fuel listed a w->wpAny P .any ⟨ops⟩ Q fuel listed a w
 |0,_,_,_,h=>h
 |fuel+1,_,_,_,h=>⟨h.1,λi hi=>wpOp_mono (λa' w' h'=>aan fuel _ a' w' h'.2) (h.2 i hi)⟩
def aoA{i:Nat}{oi:Oper}{v:Value}(hq:qY ops i=true)(hi:(Array.mk ops)[i]?=some oi)(hsel:∀(j:Nat) (o:Oper) cs b,(Array.mk ops)[j]?=some o->o.op≠.select cs b)
  (hQ:∀c a w,Q (.panic c) (a.put oi.dst v) w->Q (.panic c) a w):
  ∀(fuel:Nat) (listed:Array Bool) (a:Act) (w:World),Ae ops listed->
   (∀j oj,(Array.mk ops)[j]?=some oj->j≠i->listed.getD j true=false->(∀e∈oj.after,Region.binds .any e=true->e.on≠i)->oi.apart ⟨ops⟩ oj=true)->
   i∈Region.ready .any ⟨ops⟩ listed->YieldsIf P ⟨ops⟩ (λw=>oD ops i=true->S w) oi v a->(oD ops i=true->S w)->
   BR P ops Q S fuel (listed.setIfInBounds i true) (a.put oi.dst v) w->BR P ops Q S (fuel+1) listed a w:=by
 intro fuel
 induction fuel with
 |zero=>
  intro listed a w hcl _ hr hy hS H;refine⟨λh=>(by rw[h]at hr;cases hr),λj hj=>?_⟩
  by_cases hji:j=i
  .subst hji;exact hy.wpOp hi hS ⟨⟨λ_=>rfl,λh=>by rw[hq]at h;cases h⟩,H⟩
  .have:=ready_mono hj hji
   rw[H.1]at this;cases this
 |succ fuel ih=>
  intro listed a w hcl hfree hr hy hS H;refine⟨λh=>(by rw[h]at hr;cases hr),λj hj=>?_⟩
  by_cases hji:j=i
  .subst hji;exact hy.wpOp hi hS ⟨⟨λ_=>rfl,λh=>by rw[hq]at h;cases h⟩,H⟩
  .have h1:=H.2 j (ready_mono hj hji)
   obtain⟨HK,oj,AN,hall⟩:=mem_ready.1 hj;have hnot:∀e∈oj.after,Region.binds .any e=true->e.on≠i:=λe he hb heq=>by
    have h1:=hall e he hb;have h0:=(mem_ready.1 hr).1;rw[heq]at h1;rcases w_ i listed.size with h'|h'
    .simp[h']at h0 h1;rw[h0]at h1;cases h1
    .simp[Pb h']at h1
   have h2:=wpOp_putIf AN (hfree j oj AN hji HK hnot) (λcs b=>hsel i oi cs b hi) (λcs b=>hsel j oj cs b AN) hQ hy h1;have TQ:∀k ok,(Array.mk ops)[k]?=some ok->k≠i->(listed.setIfInBounds j true).getD k true=false->
     (∀e∈ok.after,Region.binds .any e=true->e.on≠i)->oi.apart ⟨ops⟩ ok=true:=λk ok hk hki hun hno=>by
    refine hfree k ok hk hki ?_ hno
    by_cases hjk:j=k
    .subst hjk;exact HK
    .rw[getD_set_ne true hjk]at hun;exact hun
   refine wpOp_mono (λa' w' h3=>⟨h3.2.1,ih (listed.setIfInBounds j true) a' w' (DE hcl hj) TQ (ready_mono hr (Gp hji)) h3.1 (λhl=>?_) ?_⟩) h2
   .cases Ig:qY ops j with
    |true=>rw[h3.2.1.1 Ig];exact hS hl
    |false=>exact h3.2.1.2 Ig (LA hcl (mem_ready.1 hr).1 hji hl hj)
   .rw[XC _ _ hji]
    exact h3.2.2
end
def qi(P:Program)(ops:List Oper)(S:World->Prop)(K:Fr->World->Prop)(E:List PanicEntry->World->Prop):Nat->Array Bool->Fr->World->Prop
 |0,listed,l,w=>aq (Region.ready .any ⟨ops⟩ listed).isEmpty (K l w) False
 |n+1,listed,l,w=>match Region.ready .any ⟨ops⟩ listed with
  |[]=>K l w
  |i::rs=>match(i::rs).find? (qY ops)with
   |some i=>match ops[i]? with
    |some o=>aq (Region.free .any ⟨ops⟩ listed i) (xR ops l o.guard
      (λl=>u7 P l o (λa v=>∀w1,S w1->w1.cell? a=some v) λv=>aIo l o.dst v λl'=>qi P ops S K E n (listed.setIfInBounds i true) l' w)
      (λl=>aIo l o.dst undef λl'=>qi P ops S K E n (listed.setIfInBounds i true) l' w)) False
    |none=>False
   |none=>Mm (λi=>match ops[i]? with
    |some o=>xR ops l o.guard
      (λl=>aIP P l o w (λv w'=>aIo l o.dst v λl'=>aq (aIJ ops i) (S w'/\qi P ops S K E n (listed.setIfInBounds i true) l' w') (qi P ops S K E n (listed.setIfInBounds i true) l' w')) E)
      (λl=>aIo l o.dst undef λl'=>aq (aIJ ops i) (S w/\qi P ops S K E n (listed.setIfInBounds i true) l' w) (qi P ops S K E n (listed.setIfInBounds i true) l' w))
    |none=>False) (i::rs)
where
 Mm (f:Nat->Prop):List Nat->Prop
  |[]=>True
  |[i]=>f i
  |i::r=>f i/\Mm f r
def abm{f:Nat->Prop}{l:List Nat}(h:qi.Mm f l):∀i∈l,f i:=by
 induction l with
 |nil=>intro i hi;cases hi
 |cons x r ih=>
  intro i hi;cases r with
  |nil=>
   obtain rfl:i=x:=by simpa using hi
   exact h
  |cons y r=>
   rcases gE.1 hi with rfl|hi
   .exact h.1
   .exact ih h.2 i hi
def aao{P:Program}{o:Oper}{l:Fr}{Rd VI:Addr->Value->Prop}{K:Value->Prop}(hl:Ad o.op=false)(h:u7 P l o Rd K):u7 P l o VI K:=by
 unfold u7 at h⊢;split at h<;>first|exact h|skip
 .rename_i t x ho
  rw[ho]at hl;cases hl
 .rename_i s d x ho
  rw[ho]at hl;cases hl
def Ld{ops:List Oper}{l l':Fr}{i:Nat}{o:Oper}{v:Value}(hi:ops[i]?=some o)(h:aHe (aHB ops) l l'):aHe (aHB ops) l (put l' o.dst v):=by refine h.trans (aHe.put l' o.dst v) (λt ht=>ht) (λt ht=>?_);simp only[aHB,Qr];exact⟨o,uf hi,ht⟩
def aap{op:Op}(h:Ad op=true):Lz op=true:=by cases op<;>simp[Ad]at h<;>rfl
def apg{P:Program}{ops:List Oper}{ds:List Deferred}{S:World->Prop}{K:Fr->World->Prop}{E:List PanicEntry->World->Prop}{Q:Exit->Act->World->Prop}{l0:Fr}
  (hsel:Region.noSelect ⟨ops⟩=true)(hQ:∀o∈ops,∀c a v w,Q (.panic c) (a.put o.dst v) w->Q (.panic c) a w)(hE:∀l' c w',aHe (aHB ops) l0 l'->E c w'->Q (.panic c) (act l' ds) w')
  (hK:∀l' w',aHe (aHB ops) l0 l'->K l' w'->Q .normal (act l' ds) w'):
  ∀(n:Nat) (listed:Array Bool) (l:Fr) (w:World),qi P ops S K E n listed l w->Ae ops listed->aHe (aHB ops) l0 l->((∃i,listed.getD i true=false/\oD ops i=true)->S w)->
   BR P ops Q S n listed (act l ds) w:=by
 intro n
 induction n with
 |zero=>intro listed l w h hc ha hS;obtain⟨hr,h⟩:=ec h;exact⟨Qq.1 hr,hK l w ha h⟩
 |succ n ih=>
  intro listed l w h hc ha hS;unfold qi at h;split at h
  .rename_i hr
   exact⟨λ_=>hK l w ha h,by rw[hr];simp⟩
  .rename_i i0 rs hr
   split at h
   .rename_i i hf
    have hq:qY ops i=true:=QE hf;have hmem:i∈Region.ready .any ⟨ops⟩ listed:=by rw[hr];exact O1 hf
    split at h
    .rename_i o ho
     obtain⟨hfree,h⟩:=ec h;have yQ:(Array.mk ops)[i]?=some o:=by simpa using ho
     have hun:=(mem_ready.1 hmem).1;have step:∀v,YieldsIf P ⟨ops⟩ (λw=>oD ops i=true->S w) o v (act l ds)->qi P ops S K E n (listed.setIfInBounds i true) (put l o.dst v) w->BR P ops Q S (n+1) listed (act l ds) w:=by
      intro v hy hn;refine aoA hq yQ (Region.noSelect_spec hsel) (λc a w h=>hQ o (uf ho) c a _ w h) n listed _ w hc (Region.free_spec yQ hfree) hmem hy (λhl=>hS ⟨i,hun,hl⟩) ?_;rw[vS];refine ih _ _ w hn (DE hc hmem) (Ld ho ha) ?_;rintro⟨k,hk,hl⟩;refine hS ⟨k,?_,hl⟩
      by_cases hki:i=k
      .subst hki
       exact hun
      .rwa[getD_set_ne true hki]at hk
     rcases xe (ds:=ds) h with⟨hw,h⟩|⟨hw,h⟩
     .cases hl:Ad o.op with
      |false=>obtain⟨v,hk,hrun⟩:=DR (ds:=ds) (aao (VI:=λ_ _=>False) hl h);exact step v (.inl ⟨hw,λw _=>hrun w (λ_ _ h=>h.elim)⟩) (l_ hk)
      |true=>
       obtain⟨v,hk,hrun⟩:=DR (ds:=ds) h;have hlb:oD ops i=true:=by unfold oD;rw[ho];exact hl
       exact step v (.inl ⟨hw,λw hs=>hrun w (λa u h=>h w (hs hlb))⟩) (l_ hk)
     .exact step undef (.inr ⟨hw,rfl⟩) (l_ h)
    .exact h.elim
   .rename_i hnone
    have h:=abm h;refine⟨λh0=>(by rw[hr]at h0;cases h0),λi hi=>?_⟩;have hi':i∈i0::rs:=by rw[<-hr];exact hi
    have h:=h i hi';have hq:qY ops i=false:=by have:=X_.1 hnone i hi';simpa using this
    split at h
    .rename_i o ho
     have yQ:(Array.mk ops)[i]?=some o:=by simpa using ho
     have next:∀v w',aq (aIJ ops i) (S w'/\qi P ops S K E n (listed.setIfInBounds i true) (put l o.dst v) w') (qi P ops S K E n (listed.setIfInBounds i true) (put l o.dst v) w')->
       Ml ops S i w w'/\BR P ops Q S n (listed.setIfInBounds i true) ((act l ds).put o.dst v) w':=by
      intro v w' h;rw[vS];have rest:qi P ops S K E n (listed.setIfInBounds i true) (put l o.dst v) w':=by
       rw[aHL]at h;cases hb:aIJ ops i with
       |true=>exact(h.1 hb).2
       |false=>exact h.2 hb
      have need:aIJ ops i=true->S w':=λhb=>by rw[aHL]at h;exact(h.1 hb).1
      refine⟨⟨λIh=>(by rw[hq]at Ih;cases Ih),λ_=>need⟩,ih _ _ w' rest (DE hc hi) (Ld ho ha) ?_⟩;rintro⟨k,hk,hl⟩
      by_cases hki:i=k
      .subst hki
       unfold oD at hl;unfold qY at hq;rw[ho]at hl hq;have h1:Ad o.op=true:=hl;have h2:Lz o.op=false:=hq;rw[aap h1]at h2;cases h2
      .rw[getD_set_ne true hki]at hk
       exact need (LA hc hk hki hl hi)
     unfold wpOp;simp only[yQ];rcases xe (ds:=ds) h with⟨hw,h⟩|⟨hw,h⟩
     .rw[aN hw]
      exact .inl (Lc h (λv w' hk=>next v w' (l_ hk)) (λc w' he=>hE l c w' ha he))
     .rw[aH (by simp[hw])]
      exact next undef w (l_ h)
    .exact h.elim
inductive Mn where
 |still
 |tail(n:Nat)
 |held
def drawn(P:Program)(m:Mn)(ops:List Oper)(K:Fr->World->Prop)(E:List PanicEntry->World->Prop)(l:Fr)(w:World):Prop:=match m with
 |.still=>aq (P.follows .mixedOrders&&Region.lexB .any ⟨ops⟩) (AB P ops (λa v=>w.cell? a=some v) (λg args v=>Calls P g ⟨args⟩ w.drew λe w'=>e=.returned v/\w'=w.drew) (λl'=>K l' w.drew) ops l) False
 |.tail n=>aq (P.follows .mixedOrders&&Region.lexTailB .any ⟨ops⟩ n) (AB P ops (λa v=>w.cell? a=some v) (λg args v=>Calls P g ⟨args⟩ w.drew λe w'=>e=.returned v/\w'=w.drew)
   (λl'=>uG P ops K E (ops.drop n) l' w.drew) (ops.take n) l) False
 |.held=>aq (P.follows .mixedOrders&&Region.noSelect ⟨ops⟩) (∃S:World->Prop,S w.drew/\qi P ops S K E ops.length (Array.replicate ops.length false) l w.drew) False
def aph(a b:List Oper):aHB (a++b)=aHB a++aHB b:=by simp[aHB]
def Gb{P:Program}{m:Mn}{id:Nat}{ops:List Oper}{ds:List Deferred}{K:Fr->World->Prop}{E:List PanicEntry->World->Prop}{Q:Exit->Act->World->Prop}{l:Fr}{w:World}
  (h:drawn P m ops K E l w)(hK:∀l' w',aHe (aHB ops) l l'->K l' w'->Q .normal (act l' ds) w')(hE:∀l' c w',aHe (aHB ops) l l'->E c w'->Q (.panic c) (act l' ds) w'):
  (Code.region id ⟨ops⟩ true).wp P Q (act l ds) w:=by
 cases m with
 |still=>obtain⟨hb,h⟩:=ec h;rw[e_]at hb;refine wp_region_quiet (C:=λw'=>w'=w.drew) hb.1 hb.2 rfl ?_;exact aqn (λw1 e=>by subst e;exact λa u h=>h) (λg args v hc w1 e=>by subst e;exact hc) h λl' ha hk w1 e=>by subst e;exact hK l' _ ha hk
 |tail n=>
  obtain⟨hb,h⟩:=ec h;rw[e_]at hb;refine wp_region_still_tail n hb.1 hb.2 ?_;refine aqo (w:=w.drew) (λa u h=>h) (λg args v hc=>hc) h λl' ha hk=>?_;have e:aHB ops=aHB (ops.take n)++aHB (ops.drop n):=by rw[<-aph,aIh]
  have step:∀{l2:Fr},aHe (aHB (ops.drop n)) l' l2->aHe (aHB ops) l l2:=by intro l2 Cu;rw[e];exact ha.trans Cu (λt ht=>rO _ ht) (λt ht=>ue _ ht)
  exact ZQ (λl2 c w2 Cu he=>hE l2 c w2 (step Cu) he) hk λl2 w2 Cu hk2=>hK l2 w2 (step Cu) hk2
 |held=>
  obtain⟨hb,S,hs,h⟩:=ec h;rw[e_]at hb
  let Q':Exit->Act->World->Prop:=λe a w=>match e with
   |.normal=>Q .normal a w
   |.panic c=>a.defers=ds/\aHe (aHB ops) l a.tmps.toList/\E c w
   |_=>False
  have h1:(Code.region id ⟨ops⟩ true).wp P Q' (act l ds) w:=by
   refine wp_region_any hb.1 (aan (S:=S) _ _ _ _ ?_);refine apg (Q:=Q') (l0:=l) hb.2 (λo ho c a v w h=>?_) (λl' c w' ha he=>⟨rfl,ha,he⟩) (λl' w' ha hk=>hK l' w' ha hk) _ _ _ _ h ?_ (aHe.refl _ _) (λ_=>hs)
   .refine⟨?_,?_,h.2.2⟩
    .have:=h.1
     cases hd:o.dst with
     |none=>rw[hd]at this;exact this
     |some d=>rw[hd]at this;exact this
    .have h2:=h.2.1
     cases hd:o.dst with
     |none=>rw[hd]at h2;exact h2
     |some d=>
      rw[hd]at h2;have hmem:d∈aHB ops:=by simp only[aHB,Qr];exact⟨o,ho,by rw[hd];simp⟩
      refine⟨?_,λt ht=>?_⟩
      .have:=h2.1
       simpa[Act.put]using this
      .have:=h2.2 t ht
       have hne:d≠t:=λe=>ht (e▸hmem);simpa[Act.put,rN hne]using this
   .intro j o _ hl
    exfalso;simp only[Jp,XD]at hl;split at hl<;>cases hl
  refine Go.wp_mono h1 λe a w' hq=>?_;cases e<;>simp only[Q']at hq<;>first|exact hq|exact hq.elim|skip
  obtain⟨hd,ha,he⟩:=hq;have:=hE a.tmps.toList _ w' ha he;have e:act a.tmps.toList ds=a:=by cases a;cases hd;rfl
  rwa[e]at this
structure B4 where
 normal:Fr->World->Prop
 exit:Nat->Fr->World->Prop
 ret:Fr->World->Prop
 panic:List PanicEntry->World->Prop
def written:Code->List Nat
 |.region _ ⟨ops⟩ _=>aHB ops
 |.seq a b=>written a++written b
 |.cond _ a b=>written a++written b
 |.block _ c=>written c
 |.loop c=>written c
 |_=>[]
def Ak(l:Fr):List (Nat×Ty)->(List Value->Prop)->Prop
 |[],K=>K []
 |(t,_)::r,K=>tD l t λv=>Ak l r λvs=>K (v::vs)
def Al:List (Nat×Ty)->List Value->Fr->(Fr->Prop)->Prop
 |(t,_)::r,v::vs,l,K=>su l t v λl'=>Al r vs l' K
 |_,_,l,K=>K l
def Af(us:Nat->Value):List Nat->Fr->(Fr->Prop)->Prop
 |[],l,K=>K l
 |t::r,l,K=>su l t (us t) λl'=>Af us r l' K
structure n_ where
 live:List (Nat×List (Nat×Ty)):=[]
 c_:List (Nat×Mn):=[]
 ef:List Nat:=[]
def MN(pl:n_)(p:Nat)(A:Prop):Prop:=aq (pl.ef.any (Nat.beq p)) False A
def acv{pl:n_}{p:Nat}{A:Prop}(h:MN pl p A):A:=by
 unfold MN at h;rw[aHL]at h;cases hc:pl.ef.any (Nat.beq p)with
 |true=>exact(h.1 hc).elim
 |false=>exact h.2 hc
def lookup{α:Type}:List (Nat×α)->Nat->Option α
 |[],_=>none
 |(k,v)::r,n=>bif Nat.beq k n then some v else lookup r n
def fZ:List (Nat×Ty)->List Ty
 |[]=>[]
 |(_,x)::r=>x::fZ r
def vc(P:Program)(pl:n_):Code->Nat->B4->Fr->World->Prop
 |.skip,_,C,l,w=>C.normal l w
 |.region _ ⟨ops⟩ false,_,C,l,w=>uG P ops C.normal C.panic ops l w
 |.region id ⟨ops⟩ true,_,C,l,w=>match lookup pl.c_ id with
  |some m=>drawn P m ops C.normal C.panic l w
  |none=>drawn P .still ops C.normal C.panic l w
 |.seq a b,p,C,l,w=>match lookup pl.live p with
  |none=>vc P pl a (2*p) {C with normal:=λl' w'=>vc P pl b (2*p+1) C l' w'} l w
  |some sp=>∃J:dW (fZ sp) (World->Prop),
    vc P pl a (2*p) {C with normal:=λl' w'=>Ak l' sp λvs=>dW.app (fZ sp) J vs λq=>q w'} l w/\
    Ac (fZ sp) λvs=>∀(us:Nat->Value) (w':World),(dW.app (fZ sp) J vs λq=>q w')->Af us (written a) l λl1=>Al sp vs l1 λl2=>vc P pl b (2*p+1) C l2 w'
 |.cond c a b,p,C,l,w=>cS l c λv=>match v with
  |.bool t=>aq t (MN pl (2*p) (vc P pl a (2*p) C l w)) (MN pl (2*p+1) (vc P pl b (2*p+1) C l w))
  |_=>False
 |.block id c,p,C,l,w=>vc P pl c (2*p) {C with exit:=λi l' w'=>aq (Nat.beq i id) (C.normal l' w') (C.exit i l' w')} l w
 |.loop c,p,C,l,w=>match lookup pl.live p with
  |none=>False
  |some sp=>∃(I:dW (fZ sp) (World->Prop)) (m:dW (fZ sp) (World->Nat)),
    (Ak l sp λvs=>dW.app (fZ sp) I vs λq=>q w)/\
    Ac (fZ sp) λvs=>∀(us:Nat->Value) (w':World),(dW.app (fZ sp) I vs λq=>q w')->Af us (written c) l λl1=>Al sp vs l1 λl2=>
     vc P pl c (2*p) {C with normal:=λl3 w3=>Ak l3 sp λvs'=>(dW.app (fZ sp) I vs' λq=>q w3)/\dW.app (fZ sp) m vs' λm1=>dW.app (fZ sp) m vs λm0=>m1 w3<m0 w'} l2 w'
 |.exit i,_,C,l,w=>C.exit i l w
 |.ret,_,C,l,w=>C.ret l w
 |_,_,_,_,_=>False
def D9(us:Nat->Value):List Nat->Fr->Fr
 |[],l=>l
 |t::r,l=>D9 us r (l.set t (us t))
def aqq{us:Nat->Value}{ws:List Nat}:∀{l:Fr} {K:Fr->Prop},Af us ws l K->K (D9 us ws l):=by
 induction ws with
 |nil=>intro l K h;exact h
 |cons t r ih=>intro l K h;exact ih (BF h)
def sets:List (Nat×Ty)->List Value->Fr->Fr
 |(t,_)::r,v::vs,l=>sets r vs (l.set t v)
 |_,_,l=>l
def abn{sp:List (Nat×Ty)}:∀{vs:List Value} {l:Fr} {K:Fr->Prop},Al sp vs l K->K (sets sp vs l):=by
 induction sp with
 |nil=>intro vs l K h;exact h
 |cons x r ih=>intro vs l K h;cases vs with
  |nil=>exact h
  |cons v vs=>exact ih (BF h)
def Reads(l:Fr):List (Nat×Ty)->List Value->Prop
 |[],[]=>True
 |(t,_)::r,v::vs=>l[t]?=some v/\Reads l r vs
 |_,_=>False
def DH{l:Fr}{sp:List (Nat×Ty)}:∀{K:List Value->Prop},Ak l sp K->∃vs,Reads l sp vs/\K vs:=by
 induction sp with
 |nil=>intro K h;exact⟨[],trivial,h⟩
 |cons x r ih=>intro K h;obtain⟨v,hv,h⟩:=xA h;obtain⟨vs,h1,h2⟩:=ih h;exact⟨v::vs,⟨hv,h1⟩,h2⟩
def ash{l:Fr}{sp:List (Nat×Ty)}:∀{vs:List Value},Reads l sp vs->sets sp vs l=l:=by
 induction sp with
 |nil=>intro vs h;cases vs<;>rfl
 |cons x r ih=>
  intro vs h;cases vs with
  |nil=>exact h.elim
  |cons v vs=>simp only[sets];rw[Gz h.1];exact ih h.2
def asi(us:Nat->Value)(ws:List Nat)(t:Nat):∀l:Fr,(D9 us ws l)[t]?=if t∈ws/\t<l.length then some (us t)else l[t]?:=by
 induction ws with
 |nil=>intro l;simp[D9]
 |cons x r ih=>
  intro l;simp only[D9,ih,zG,gE]
  by_cases ht:t<l.length
  ·by_cases hx:x=t
   .subst hx
    by_cases hr:x∈r<;>simp[hr,ht]
   ·by_cases hr:t∈r
    .simp[hr,ht]
    .simp[hr,Gp hx,rN hx]
  .simp[ht]
def aua{ws:List Nat}{l l':Fr}(h:aHe ws l l'):D9 (λt=>l'.getD t undef) ws l=l':=by
 apply qO;intro t;rw[asi]
 by_cases ht:t<l.length
 ·by_cases hw:t∈ws
  .have ht':t<l'.length:=by rw[h.1];exact ht
   simp[hw,ht,List.getD,iy ht']
  .simp[hw,h.2 t hw]
 .have ht':¬t<l'.length:=by rw[h.1];exact ht
  simp[ht,ud (J1 ht),ud (J1 ht')]
def fk.aKj{X:Type}{x:js}{f:fk x X}{v:Value}{K K':X->Prop}(h:fk.app x f v K)(h':fk.app x f v K'):fk.app x f v λy=>K y/\K' y:=by
 cases x<;>cases v<;>simp only[fk.app]at h h'⊢<;>first|exact h.elim|exact⟨h,h'⟩|skip
 rename_i k k' n;cases hd:decide (k=k')<;>simp[hd]at h h'⊢;exact⟨h,h'⟩
def gG.aKj{X:Type}{l:List js}{f:gG l X}{vs:List Value}{K K':X->Prop}(h:gG.app l f vs K)(h':gG.app l f vs K'):gG.app l f vs λy=>K y/\K' y:=by
 induction l generalizing vs with
 |nil=>cases vs with
  |nil=>exact⟨h,h'⟩
  |cons v vs=>exact h.elim
 |cons x r ih=>cases vs with
  |nil=>exact h.elim
  |cons v vs=>exact fk.aKf (fk.aKj h h') λg hg=>ih hg.1 hg.2
def iU.aKj{X:Type}{x:Ty}{f:iU x X}{v:Value}{K K':X->Prop}(h:iU.app x f v K)(h':iU.app x f v K'):iU.app x f v λy=>K y/\K' y:=by
 cases x with
 |leaf x=>exact fk.aKj h h'
 |agg l=>cases v<;>first|exact h.elim|exact gG.aKj h h'
 |fe n=>cases v<;>first|exact h.elim|exact⟨h.1,h.2,h'.2⟩
def dW.aKj{X:Type}{l:List Ty}{f:dW l X}{vs:List Value}{K K':X->Prop}(h:dW.app l f vs K)(h':dW.app l f vs K'):∃y,K y/\K' y:=by
 induction l generalizing vs with
 |nil=>cases vs with
  |nil=>exact⟨_,h,h'⟩
  |cons v vs=>exact h.elim
 |cons x r ih=>cases vs with
  |nil=>exact h.elim
  |cons v vs=>obtain⟨g,hg1,hg2⟩:=iU.BE (iU.aKj h h');exact ih hg1 hg2
def asj{l:Fr}{sp:List (Nat×Ty)}:∀{vs vs':List Value},Reads l sp vs->Reads l sp vs'->vs=vs':=by
 induction sp with
 |nil=>intro vs vs' h h';cases vs<;>cases vs'<;>first|rfl|exact h.elim|exact h'.elim
 |cons x r ih=>
  intro vs vs' h h';cases vs with
  |nil=>exact h.elim
  |cons v vs=>cases vs' with
   |nil=>exact h'.elim
   |cons v' vs'=>have:=h.1.symm.trans h'.1;obtain rfl:=bO this;rw[ih h.2 h'.2]
def fk.aKk{X:Type}{x:js}{f:fk x X}{v:Value}{K:X->Prop}(h:fk.app x f v K):∃y,K y/\∀K':X->Prop,K' y->fk.app x f v K':=by
 cases x<;>cases v<;>simp only[fk.app]at h⊢<;>first|exact h.elim|exact⟨_,h,λ_ h'=>h'⟩|skip
 rename_i k k' n;cases hd:decide (k=k')<;>simp only[hd,ar7,aqc]at h⊢;exact⟨_,h,λ_ h'=>h'⟩
def gG.aKk{X:Type}{l:List js}{f:gG l X}{vs:List Value}{K:X->Prop}(h:gG.app l f vs K):∃y,K y/\∀K':X->Prop,K' y->gG.app l f vs K':=by
 induction l generalizing vs with
 |nil=>cases vs with
  |nil=>exact⟨_,h,λ_ h'=>h'⟩
  |cons v vs=>exact h.elim
 |cons x r ih=>cases vs with
  |nil=>exact h.elim
  |cons v vs=>obtain⟨g,hg,hall⟩:=fk.aKk h;obtain⟨y,hy,Um⟩:=ih hg;exact⟨y,hy,λK' hk=>hall _ (Um K' hk)⟩
def iU.aKk{X:Type}{x:Ty}{f:iU x X}{v:Value}{K:X->Prop}(h:iU.app x f v K):∃y,K y/\∀K':X->Prop,K' y->iU.app x f v K':=by
 cases x with
 |leaf x=>exact fk.aKk h
 |agg l=>cases v<;>first|exact h.elim|exact gG.aKk h
 |fe n=>cases v<;>first|exact h.elim|exact⟨_,h.2,λ_ h'=>⟨h.1,h'⟩⟩
def dW.aKk{X:Type}{l:List Ty}{f:dW l X}{vs:List Value}{K:X->Prop}(h:dW.app l f vs K):∃y,K y/\∀K':X->Prop,K' y->dW.app l f vs K':=by
 induction l generalizing vs with
 |nil=>cases vs with
  |nil=>exact⟨_,h,λ_ h'=>h'⟩
  |cons v vs=>exact h.elim
 |cons x r ih=>cases vs with
  |nil=>exact h.elim
  |cons v vs=>obtain⟨g,hg,hall⟩:=iU.aKk h;obtain⟨y,hy,Um⟩:=ih hg;exact⟨y,hy,λK' hk=>hall _ (Um K' hk)⟩
def aeh(sp:List (Nat×Ty))(m:dW (fZ sp) (World->Nat))(a:Act)(w:World)(n:Nat):Prop:=
 ∃vs,Reads a.tmps.toList sp vs/\dW.app (fZ sp) m vs λz=>z w=n
open Classical in
noncomputable def MO(sp:List (Nat×Ty))(m:dW (fZ sp) (World->Nat))(a:Act)(w:World):Nat:=
 if h:∃n,aeh sp m a w n then Classical.choose h else 0
def LB{sp:List (Nat×Ty)}{m:dW (fZ sp) (World->Nat)}{a:Act}{w:World}{vs:List Value}{K:(World->Nat)->Prop}(hr:Reads a.tmps.toList sp vs)(h:dW.app (fZ sp) m vs K):
  ∃y,K y/\MO sp m a w=y w:=by
 obtain⟨y,hy,hall⟩:=dW.aKk h;refine⟨y,hy,?_⟩;have hex:∃n,aeh sp m a w n:=⟨y w,vs,hr,hall _ rfl⟩;unfold MO;rw[dif_pos hex];obtain⟨vs',hr',h'⟩:=Classical.choose_spec hex;rw[asj hr' hr]at h';obtain⟨z,h1,h2⟩:=dW.aKj h' (hall (λz=>z=y) rfl);rw[<-h1,h2]
def Gg{ws:List Nat}{l l':Fr}{sp:List (Nat×Ty)}{vs:List Value}{K:Fr->Prop}(ha:aHe ws l l')(hr:Reads l' sp vs)
  (h:∀us:Nat->Value,Af us ws l λl1=>Al sp vs l1 K):K l':=by
 have h1:=abn (aqq (h λt=>l'.getD t undef));rw[aua ha,ash hr]at h1;exact h1
def nP{P:Program}{pl:n_}{ds:List Deferred}:∀(c:Code) (p:Nat) (C:B4) (l:Fr) (w:World) (Q:Exit->Act->World->Prop),vc P pl c p C l w->
  (∀l' w',aHe (written c) l l'->C.normal l' w'->Q .normal (act l' ds) w')->(∀i l' w',aHe (written c) l l'->C.exit i l' w'->Q (.exit i) (act l' ds) w')->
  (∀l' w',C.ret l' w'->Q .ret (act l' ds) w')->(∀l' ch w',aHe (written c) l l'->C.panic ch w'->Q (.panic ch) (act l' ds) w')->c.wp P Q (act l ds) w
 |.skip,p,C,l,w,Q,h,hn,_,_,_=>wp_skip (hn l w (aHe.refl _ _) h)
 |.region id ⟨ops⟩ false,p,C,l,w,Q,h,hn,_,_,hp=>wp_region_list (ZQ hp h λl' w' ha hk=>hn l' w' ha hk)
 |.region id ⟨ops⟩ true,p,C,l,w,Q,h,hn,_,_,hp=>by
  simp only[vc]at h;split at h
  .exact Gb h (λl' w' ha hk=>hn l' w' ha hk) hp
  .exact Gb h (λl' w' ha hk=>hn l' w' ha hk) hp
 |.seq a b,p,C,l,w,Q,h,hn,he,hr,hp=>by
  simp only[vc]at h;have left:∀{l':Fr},aHe (written a) l l'->aHe (written (.seq a b)) l l':=λha=>ha.mono λt ht=>rO _ ht;have both:∀{l' l2:Fr},aHe (written a) l l'->aHe (written b) l' l2->aHe (written (.seq a b)) l l2:=λha hb=>ha.trans hb (λt ht=>rO _ ht) (λt ht=>ue _ ht);refine wp_seq ?_;split at h
  .refine nP a (2*p) _ l w _ h (λl' w' ha hk=>?_) (λi l' w' ha hk=>he i l' w' (left ha) hk) (λl' w' hk=>hr l' w' hk) (λl' ch w' ha hk=>hp l' ch w' (left ha) hk)
   exact nP b (2*p+1) C l' w' Q hk (λl2 w2 hb hk=>hn l2 w2 (both ha hb) hk) (λi l2 w2 hb hk=>he i l2 w2 (both ha hb) hk) hr (λl2 ch w2 hb hk=>hp l2 ch w2 (both ha hb) hk)
  .rename_i sp _
   obtain⟨J,h1,h2⟩:=h;refine nP a (2*p) _ l w _ h1 (λl' w' ha hk=>?_) (λi l' w' ha hk=>he i l' w' (left ha) hk) (λl' w' hk=>hr l' w' hk) (λl' ch w' ha hk=>hp l' ch w' (left ha) hk);obtain⟨vs,hrd,hj⟩:=DH hk;have h3:=dW.uq hj h2;have h4:=Gg ha hrd λus=>h3 us w' hj;exact nP b (2*p+1) C l' w' Q h4 (λl2 w2 hb hk=>hn l2 w2 (both ha hb) hk) (λi l2 w2 hb hk=>he i l2 w2 (both ha hb) hk) hr (λl2 ch w2 hb hk=>hp l2 ch w2 (both ha hb) hk)
 |.cond c a b,p,C,l,w,Q,h,hn,he,hr,hp=>by
  simp only[vc]at h;have h:=cO (ds:=ds) h;split at h
  .rename_i v t hv
   rw[aHL]at h;refine wp_cond_split hv (λht=>?_) (λhf=>?_)
   .exact nP a (2*p) C l w Q (acv (h.1 ht)) (λl' w' ha hk=>hn l' w' (ha.mono λt ht=>rO _ ht) hk) (λi l' w' ha hk=>he i l' w' (ha.mono λt ht=>rO _ ht) hk) hr (λl' ch w' ha hk=>hp l' ch w' (ha.mono λt ht=>rO _ ht) hk)
   .exact nP b (2*p+1) C l w Q (acv (h.2 hf)) (λl' w' ha hk=>hn l' w' (ha.mono λt ht=>ue _ ht) hk) (λi l' w' ha hk=>he i l' w' (ha.mono λt ht=>ue _ ht) hk) hr (λl' ch w' ha hk=>hp l' ch w' (ha.mono λt ht=>ue _ ht) hk)
  .exact h.elim
 |.block id c,p,C,l,w,Q,h,hn,he,hr,hp=>by
  simp only[vc]at h;refine wp_block (nP c (2*p) _ l w _ h (λl' w' ha hk=>hn l' w' ha hk) (λi l' w' ha hk=>?_) (λl' w' hk=>hr l' w' hk) (λl' ch w' ha hk=>hp l' ch w' ha hk))
  replace hk:aq (Nat.beq i id) (C.normal l' w') (C.exit i l' w'):=hk
  rw[aHL]at hk;simp only[Exit.inBlock]
  by_cases hi:i=id
  .rw[aN hi]
   exact hn l' w' ha (hk.1 (by rw[hi];exact Nat.beq_refl id))
  .rw[aH hi]
   refine he i l' w' ha (hk.2 ?_);cases hb:Nat.beq i id with
   |false=>rfl
   |true=>exact(hi (oz hb)).elim
 |.loop c,p,C,l,w,Q,h,hn,he,hr,hp=>by
  simp only[vc]at h;split at h
  .exact h.elim
  .rename_i sp _
   obtain⟨I,m,h0,h1⟩:=h;refine wp_loop (λa w'=>∃l' vs,a=act l' ds/\aHe (written c) l l'/\Reads l' sp vs/\dW.app (fZ sp) I vs λq=>q w') (MO sp m) ?_ ?_
   .obtain⟨vs,hrd,hi⟩:=DH h0
    exact⟨l,vs,rfl,aHe.refl _ _,hrd,hi⟩
   .rintro a w' ⟨l',vs,rfl,ha,hrd,hi⟩
    have h3:=dW.uq hi h1;have h4:=Gg ha hrd λus=>h3 us w' hi;refine nP c (2*p) _ l' w' _ h4 (λl2 w2 hb hk=>?_) (λi l2 w2 hb hk=>he i l2 w2 (ha.trans hb (λ_ h=>h) (λ_ h=>h)) hk) (λl2 w2 hk=>hr l2 w2 hk) (λl2 ch w2 hb hk=>hp l2 ch w2 (ha.trans hb (λ_ h=>h) (λ_ h=>h)) hk);obtain⟨vs',HL,hi',hm⟩:=DH hk;refine⟨⟨l2,vs',rfl,ha.trans hb (λ_ h=>h) (λ_ h=>h),HL,hi'⟩,?_⟩;obtain⟨m1,dX,e1⟩:=LB (a:=act l2 ds) (w:=w2) HL hm;obtain⟨m0,hm0,e0⟩:=LB (a:=act l' ds) (w:=w') hrd dX;rw[e1,e0];exact hm0
 |.exit i,p,C,l,w,Q,h,_,he,_,_=>wp_exit (he i l w (aHe.refl _ _) h)
 |.ret,p,C,l,w,Q,h,_,_,hr,_=>wp_ret (hr l w h)
 |.label _,_,_,_,_,_,h,_,_,_,_=>h.elim
 |.goto _,_,_,_,_,_,h,_,_,_,_=>h.elim
 |.scope _,_,_,_,_,_,h,_,_,_,_=>h.elim
 |.rangeFunc ..,_,_,_,_,_,h,_,_,_,_=>h.elim
 |.refuse _,_,_,_,_,_,h,_,_,_,_=>h.elim
def sw(P:Program)(w:World):List ResultVar->Fr->(List Value->Prop)->Prop
 |[],_,K=>K []
 |.tmp t::r,l,K=>tD l t λv=>sw P w r l λvs=>K (v::vs)
 |.cell a t::r,l,K=>tD l a λv=>yy v λa=>aKL P t a (λa v=>w.cell? a=some v) λv=>sw P w r l λvs=>K (v::vs)
def wh:List Value->Value
 |[v]=>v
 |vs=>.tuple ⟨vs⟩
def lT(P:Program)(rs:List ResultVar)(R:Ending->World->Prop):B4 where
 normal:=λl w=>sw P w rs l λvs=>R (.returned (wh vs)) w
 exit:=λ_ _ _=>False
 ret:=λl w=>sw P w rs l λvs=>R (.returned (wh vs)) w
 panic:=λc w=>R (.panicked c) w
def yz(tmps:Array Value):ResultVar->Sem Value
 |.tmp t=>pure (tmps.getD t undef)
 |.cell a t=>do loadVar t (<-asAddr (tmps.getD a undef))
def aub{P:Program}{w:World}{l:Fr}{ds:List Deferred}{rs:List ResultVar}:∀{K:List Value->Prop},sw P w rs l K->
  ∃vs,(rs.mapM (yz (act l ds).tmps)).run P w=.ok vs w/\K vs:=by
 induction rs with
 |nil=>intro K h;exact⟨[],rfl,h⟩
 |cons r rs ih=>
  intro K h;cases r with
  |tmp t=>
   obtain⟨v,hv,h⟩:=xA h;obtain⟨vs,h1,h2⟩:=ih h;refine⟨v::vs,?_,h2⟩;have hg:(act l ds).tmps.getD t undef=v:=by simp[act,hv]
   simp only[aJy,Sem.run_bind,yz,hg,Sem.run_pure,Result.andThen_ok,h1]
  |cell a t=>
   obtain⟨v,hv,h⟩:=xA h;obtain⟨ad,rfl,h3⟩:=BG h;obtain⟨u,h4,hl⟩:=abe h3;obtain⟨vs,h1,h2⟩:=ih h4;refine⟨u::vs,?_,h2⟩;have hg:(act l ds).tmps.getD a undef=.pointer (some ad):=by simp[act,hv]
   simp only[aJy,Sem.run_bind,yz,hg,asAddr,Sem.run_pure,Result.andThen_ok,hl w (λ_ _ h=>h),h1]
def aIg{P:Program}{fn:Func}{w:World}{l:Fr}{ds:List Deferred}{K:List Value->Prop}(h:sw P w fn.results.toList l K):
  ∃vs,(results fn (act l ds).tmps).run P w=.ok (wh vs) w/\K vs:=by
 obtain⟨vs,h1,h2⟩:=aub (ds:=ds) h;refine⟨vs,?_,h2⟩;have e:results fn (act l ds).tmps=(do
   let vs<-fn.results.mapM (yz (act l ds).tmps)
   pure (if h:vs.size=1 then vs[0]else .tuple vs)):=by
  unfold results;congr 2
 rw[e,Sem.run_bind,Jt];simp only[Sem.run_map,h1,Result.andThen_ok,Sem.run_pure]
 match vs with
 |[]=>rfl
 |[v]=>rfl
 |v::u::r=>simp[wh]
def nS(n:Nat):List Value->Fr
 |[]=>List.replicate n undef
 |v::r=>v::nS (n-1) r
def BB(args:List Value):∀n,nS n args=args++List.replicate (n-args.length) undef:=by
 induction args with
 |nil=>intro n;simp[nS]
 |cons v r ih=>intro n;simp only[nS,ih,qP,a_];congr 3;omega
def aHs{P:Program}{f:FuncId}{fn:Func}{c:Code}{args:List Value}{w:World}{R:Ending->World->Prop}(pl:n_)(hf:P.funcs[f]?=some fn)(hb:fn.body=some c)
  (h:vc P pl c 1 (lT P fn.results.toList R) (nS fn.ntmps args) w):Calls P f ⟨args⟩ w R:=by
 refine calls_of_wp hf hb ?_;have e:(Array.mk args)++Array.replicate (fn.ntmps-(Array.mk args).size) undef=⟨nS fn.ntmps args⟩:=by apply kM;simp[BB]
 rw[e];refine nP (ds:=[]) c 1 _ _ w _ h (λl' w' _ hk=>?_) (λi l' w' _ hk=>hk.elim) (λl' w' hk=>?_) (λl' ch w' _ hk=>⟨rfl,hk⟩)
 .obtain⟨vs,h1,h2⟩:=aIg (ds:=[]) hk
  exact⟨rfl,_,h1,h2⟩
 .obtain⟨vs,h1,h2⟩:=aIg (ds:=[]) hk
  exact⟨rfl,_,h1,h2⟩
end Go.Proofs.YtihaaoehhgmphaaGreatDoor.Vc
namespace Go.Proofs.YtihaaoehhgmphaaGreatDoor
open IntKind Go.RowKit Vc
def wrap_i64{n:Int}(h0: -9223372036854775808<=n)(h1:n<9223372036854775808):i64.wrap n=n:=by simp only[IntKind.wrap,IntKind.signed,IntKind.bits];simp;omega
def wI{a b:Int}(h:a=b:=by omega)(h0: -9223372036854775808<=a:=by omega)(h1:a<9223372036854775808:=by omega):i64.wrap a=b:=(wrap_i64 h0 h1).trans h
def wrap_u64{n:Int}(h0:0<=n)(h1:n<18446744073709551616):u64.wrap n=n:=by simp only[IntKind.wrap,IntKind.signed,IntKind.bits];simp;omega
def bit(m:Int)(i:Nat):Bool:=m.toNat.testBit i
def bM(g o i:Nat):(Addr.mk g o none).add i=⟨g,o+i,none⟩:=by
 unfold Addr.add;split;·next h=>subst h;rfl
 ·rfl
def Row.wr{w:World}{g:Nat}{t:TypeId}{cs:Array Value}(h:Row w g t cs)(i:Nat)(hi:i<cs.size):Wr w ⟨g,i,none⟩:=
 ⟨by rw[h.cell];simp[hi],h.frozen hi⟩
def Row.aHE{w:World}{g:Nat}{t:TypeId}{l:List Value}(h:Row w g t ⟨l⟩)(i:Nat)(u:Value):Row (w.setCell ⟨g,i,none⟩ u) g t ⟨l.set i u⟩:=by
 have:=h.set i u;have e:(Array.mk l).setIfInBounds i u=⟨l.set i u⟩:=by apply kM;simp
 rwa[e]at this
def BS(F:Nat->UInt8)(N:Nat):List Value:=(List.range N).map λi=>.int .u8 (F i).toNat
def yA(F:Nat->UInt8)(o N:Nat):List UInt8:=(List.range N).map λj=>F (o+j)
@[simp]theorem aE7(F:Nat->UInt8)(N:Nat):(BS F N).length=N:=by simp[BS]
@[simp]theorem aE9(F:Nat->UInt8)(o N:Nat):(yA F o N).length=N:=by simp[yA]
def aaq{F:Nat->UInt8}{N i:Nat}(h:i<N):(BS F N)[i]?=some (.int .u8 (F i).toNat):=by simp[BS,h]
def auc{F:Nat->UInt8}{o N i:Nat}(h:i<N):(yA F o N)[i]?=some (F (o+i)):=by simp[yA,h]
def aqr{w:World}{g:Nat}{t:TypeId}{F:Nat->UInt8}{N:Nat}(h:Row w g t ⟨BS F N⟩){o M:Nat}(hM:o+M<=N):
  aJG (λa v=>w.cell? a=some v) (some ⟨g,o,none⟩) M (yA F o M):=by
 refine⟨by simp,λ_=>⟨_,rfl,λj b hb=>?_⟩⟩;have hj:j<M:=by have:=(iw.1 hb).1;simpa using this
 rw[auc hj]at hb;obtain rfl:=bO hb;rw[bM];exact h.dh (by simpa using aaq (by omega))
def bc(l:List UInt8):List Value:=l.map λb=>.int .u8 b.toNat
@[simp]theorem Gq(l:List UInt8):(bc l).length=l.length:=by simp[bc]
def aei(l:List UInt8)(i:Nat)(b:UInt8):(bc l).set i (.int .u8 (b.toNat:Int))=bc (l.set i b):=by simp[bc,List.map_set]
def Gr(l m:List UInt8):bc (l++m)=bc l++bc m:=by simp[bc]
def G5{l:List UInt8}{i:Nat}{b:UInt8}(h:l[i]?=some b):(bc l)[i]?=some (.int .u8 (b.toNat:Int)):=by simp[bc,h]
def TR(l:List UInt8):∀v∈bc l,v.oneCell'=true:=by intro v hv;simp only[bc,dM]at hv;obtain⟨x,_,rfl⟩:=hv;rfl
def Row.bytes{w:World}{g:Nat}{t:TypeId}{l:List UInt8}(h:Row w g t ⟨bc l⟩){n:Nat}(hn:l.length=n):aJG (λa v=>w.cell? a=some v) (some ⟨g,0,none⟩) n l:=by refine⟨hn,λ_=>⟨_,rfl,λj b hb=>?_⟩⟩;rw[bM,cL];exact h.dh (by simpa using G5 hb)
def aS.aKl{w:World}{B:Nat}{e:TypeId}{size:Nat}{v:Value}{n:Nat}{xs:List Value}(h:aS w B e size v n xs)(hn:0<n):∃g cap,v=.slice (some ⟨g,0,none⟩) n cap/\B<=g/\g<w.heap.size/\n<=cap/\∀j u,xs[j]?=some u->w.cell? ⟨g,j,none⟩=some u:=by obtain⟨g,cap,cur,rfl,hb,hr,hc,_,_⟩:=h.row hn;exact⟨g,cap,rfl,hb,hr.lt,hc,h.cells rfl⟩
def aS.bytes{w:World}{B:Nat}{e:TypeId}{p:Option Addr}{n c:Nat}{l:List UInt8}(h:aS w B e 1 (.slice p n c) n (bc l)):aJG (λa v=>w.cell? a=some v) p n l:=by have hl:=h.length;rw[Gq]at hl;refine⟨by omega,λhn=>?_⟩;obtain⟨g,cap,he,_,_,_,hx⟩:=h.aKl hn;injection he with e1 e2 e3;subst e1;refine⟨_,rfl,λj b hb=>?_⟩;rw[bM,cL];exact hx j _ (G5 hb)
def one_one{x:Value}(h:x.oneCell'=true):∀u∈[x],u.oneCell'=true:=by simpa using h
def av1(w:World)(t:TypeId)(x:Value):0<1->∃a:Addr,(some (Addr.mk w.heap.size 0 none))=some a/\∀(j:Nat) (u:Value),[x][j]?=some u->(w.alloc (.cells #[x] t)).cell? (a.add j)=some u:=by
 refine λ_=>⟨_,rfl,λj u hu=>?_⟩;have hj:j=0:=by have:=(iw.1 hu).1;simpa using this
 subst hj;obtain rfl:=bO hu;exact(Row.new w t _).dh rfl
section
variable{w w2 w7:World}{B L L':Nat}{e:TypeId}{v v':Value}{xs ys:List Value}{size:Nat}{row:Option Nat}
def aS.qd{p p':Option Addr}{n n' c c':Nat}(ho:aS w2 B e size (.slice p n c) L xs)(hB:B<=w2.heap.size){o:Obj}(yR:aS w7 0 e size (.slice p' n' c') L' ys)
  (hblk:oh p p' n' c c' (w2.alloc o).heap.size):aS w7 B e size (.slice p' n' c') L' ys:=by
 refine yR.base λk hk=>?_;rcases hblk.own (n:=n)with h|h
 .exact(ho.lt k (by rw[<-h,hk])).1
 .rw[hk]at h
  obtain rfl:=bO h;simp;omega
def Mod.qd{S:Nat->Prop}(hm:Mod S w w2)(ho:aS w2 B e size v L xs)(Nt:w.heap.size<=B){o:Obj}(hg:(w2.alloc o).grownBy w7 v.ownBlock):Mod S w w7:=
 (hm.alloc o).grown hg λg hk=>.inr (kf Nt (ho.lt g hk).1)
def Row.qd{g:Nat}{t:TypeId}{cs:Array Value}(h:Row w2 g t cs)(ho:aS w2 B e size v L xs)(hgB:g<B){o:Obj}(hg:(w2.alloc o).grownBy w7 v.ownBlock):Row w7 g t cs:=
 (h.alloc o).grown hg λhk=>by have:=(ho.lt g hk.symm).1;omega
end
end Go.Proofs.YtihaaoehhgmphaaGreatDoor
namespace Go.Proofs.YtihaaoehhgmphaaGreatDoor
open IntKind
abbrev ag:=List UInt8
end Go.Proofs.YtihaaoehhgmphaaGreatDoor
namespace Go.Proofs.YtihaaoehhgmphaaGreatDoor.Vc
open IntKind Go.RowKit
def DM:List Oper->Option (List Oper×Oper×Operand×List Operand)
 |[]=>none
 |[o]=>match o.op with
  |.defer ⟨.value f,⟨xs⟩,_⟩=>some ([],o,f,xs)
  |_=>none
 |o::r=>match DM r with
  |some (pre,d,f,xs)=>some (o::pre,d,f,xs)
  |none=>none
def Am(ws:List Nat):List ResultVar->Bool
 |[]=>true
 |.tmp t::r=>!(ws.contains t)&&Am ws r
 |.cell a _::r=>!(ws.contains a)&&Am ws r
def LZ(P:Program)(rs:List ResultVar)(R:Ending->World->Prop)(g:FuncId)(dargs:List Value)(l0:Fr):B4 where
 normal:=λl w=>CallsD P g ⟨dargs⟩ .returning w λe u' w'=>(∃v,e=.returned v)/\settle u'=.returning/\sw P w' rs l λvs=>R (.returned (wh vs)) w'
 exit:=λ_ _ _=>False
 ret:=λl w=>CallsD P g ⟨dargs⟩ .returning w λe u' w'=>(∃v,e=.returned v)/\settle u'=.returning/\sw P w' rs l λvs=>R (.returned (wh vs)) w'
 panic:=λc w=>CallsD P g ⟨dargs⟩ (.panicking c) w λe u' w'=>(∃v,e=.returned v)/\settle u'=.returning/\sw P w' rs l0 λvs=>R (.returned (wh vs)) w'
def aK9(P:Program)(rs:List ResultVar)(R:Ending->World->Prop)(g:FuncId)(dargs:List Value)(l0:Fr):B4:={LZ P rs R g dargs l0 with panic:=λ_ _=>False}
def yS(P:Program)(pl:n_)(rs:List ResultVar)(R:Ending->World->Prop):Code->Nat->Fr->World->Prop
 |.seq a b,p,l,w=>match a with
  |.region _ ⟨ops⟩ false=>match DM ops with
   |some (pre,d,f,xs)=>uG P ops (λl' w'=>cS l' f λfv=>gj fv λg first cap=>wg l' xs λvs=>aq (cY P g&&d.guard.isNone&&d.dst.isNone) (aq (Am (written b) rs) (vc P pl b (2*p+1) (LZ P rs R g (first++(vs++cap)) l') l' w') (vc P pl b (2*p+1) (aK9 P rs R g (first++(vs++cap)) l') l' w')) False)
     (λc w'=>R (.panicked c) w') pre l w
   |none=>uG P ops (λl' w'=>yS P pl rs R b (2*p+1) l' w') (λc w'=>R (.panicked c) w') ops l w
  |a=>vc P pl a (2*p) {lT P rs R with normal:=λl' w'=>yS P pl rs R b (2*p+1) l' w'} l w
 |c,p,l,w=>vc P pl c p (lT P rs R) l w
def Rt:∀{ops pre:List Oper} {d:Oper} {f:Operand} {xs:List Operand},DM ops=some (pre,d,f,xs)->ops=pre++[d]/\∃ts,d.op=.defer ⟨.value f,⟨xs⟩,ts⟩
 |[],_,_,_,_,h=>by cases h
 |[o],pre,d,f,xs,h=>by
  simp only[DM]at h;split at h
  .rename_i f' xs' ts ho
   simp only[FG,aIY]at h;obtain⟨rfl,rfl,rfl,rfl⟩:=h;exact⟨rfl,ts,ho⟩
  .cases h
 |o::o2::r,pre,d,f,xs,h=>by
  simp only[DM]at h;split at h
  .rename_i pre' d' f' xs' h2
   simp only[FG,aIY]at h;obtain⟨rfl,rfl,rfl,rfl⟩:=h;obtain⟨h3,h4⟩:=Rt (ops:=o2::r) h2;exact⟨by rw[h3];rfl,h4⟩
  .cases h
def abo{α:Type}{f g:α->Sem Value}:∀{rs:List α},(∀r∈rs,f r=g r)->rs.mapM f=rs.mapM g
 |[],_=>rfl
 |r::rs,h=>by rw[aJy,aJy,h r (by simp),abo λx hx=>h x (by simp[hx])]
def aud{ws:List Nat}{l l':Fr}{ds:List Deferred}(ha:aHe ws l l'):∀{rs:List ResultVar},Am ws rs=true->∀r∈rs,yz (act l ds).tmps r=yz (act l' ds).tmps r:=by
 have get:∀t,(!(ws.contains t))=true->(act l ds).tmps.getD t undef=(act l' ds).tmps.getD t undef:=by
  intro t ht;have hn:t∉ws:=by simpa using ht
  have h2:=ha.2 t hn;simp only[act,Jp,Bl,h2]
 intro rs
 induction rs with
 |nil=>intro _ r hr;cases hr
 |cons x rs ih=>
  intro h r hr;cases x with
  |tmp t=>
   simp only[Am,e_]at h;rcases gE.1 hr with rfl|hr
   .simp only[yz,get t h.1]
   .exact ih h.2 r hr
  |cell a t=>
   simp only[Am,e_]at h;rcases gE.1 hr with rfl|hr
   .simp only[yz,get a h.1]
   .exact ih h.2 r hr
def api{fn:Func}{ws:List Nat}{l l':Fr}{ds:List Deferred}(ha:aHe ws l l')(h:Am ws fn.results.toList=true):results fn (act l ds).tmps=results fn (act l' ds).tmps:=by
 have e:∀tmps:Array Value,results fn tmps=(do
   let vs<-fn.results.mapM (yz tmps)
   pure (if h:vs.size=1 then vs[0]else .tuple vs)):=by
  intro tmps;unfold results;congr 2
 rw[e,e,Jt,Jt,abo (aud ha h)]
def abp{P:Program}{ops:List Oper}{ds:List Deferred}{K:Fr->World->Prop}{E:List PanicEntry->World->Prop}{Q:Exit->Act->World->Prop}{rest:List Oper}(hE:∀l' c w',E c w'->Q (.panic c) (act l' ds) w'):
  ∀{pre:List Oper} {l:Fr} {w:World},uG P ops K E pre l w->(∀l' w',K l' w'->wpList P ⟨ops⟩ Q rest (act l' ds) w')->wpList P ⟨ops⟩ Q (pre++rest) (act l ds) w:=by
 intro pre
 induction pre with
 |nil=>intro l w h hK;exact hK l w h
 |cons o r ih=>
  intro l w h hK;have next:∀v w',uG P ops K E r (put l o.dst v) w'->wpList P ⟨ops⟩ Q (r++rest) ((act l ds).put o.dst v) w':=by intro v w' h;rw[vS];exact ih h hK
  rw[qP];unfold wpList;rcases xe (ds:=ds) h with⟨hw,h⟩|⟨hw,h⟩
  .rw[aN hw]
   exact .inl (RU h (λv w' hk=>next v w' (l_ hk)) (λc w' he=>hE l c w' he))
  .rw[aH (by simp[hw])]
   exact next undef w (l_ h)
def abq{P:Program}{l:Fr}{ds:List Deferred}{o:Oper}{f:Operand}{xs:List Operand}{ts:Array TypeId}(ho:o.op=.defer ⟨.value f,⟨xs⟩,ts⟩){g:FuncId}{first cap:List Value}
  (hf:(act l ds).eval f=.func (.func g) ⟨first⟩ ⟨cap⟩)(w:World):
  (execOp (act l ds).eval o).run P w=.ok (.defer {target:=.fn (.func g) ⟨cap⟩,args:=⟨first++xs.map (act l ds).eval⟩}) w:=by
 have e:({toList:=first}:Array Value)++Array.map (act l ds).eval {toList:=xs}=⟨first++xs.map (act l ds).eval⟩:=by apply kM;simp
 simp only[execOp,ho,resolve,hf,Deferred.ofValue,Sem.run_bind,Sem.run_pure,Result.andThen_ok];rw[e]
def aKh:Code->Bool
 |.region _ ⟨ops⟩ _=>ops.any λo=>match o.op with
  |.defer _=>true
  |_=>false
 |.seq a b=>aKh a||aKh b
 |.cond _ a b=>aKh a||aKh b
 |_=>false
def wj(P:Program)(Q:Exit->Act->World->Prop):List Code->Act->World->Prop
 |[]=>Q .normal
 |c::r=>c.wp P (Exit.then (wj P Q r) Q)
def VJ(P:Program)(pl:n_)(C:B4):List (Code×Nat)->Fr->World->Prop
 |[],l,w=>C.normal l w
 |(c,p)::r,l,w=>vc P pl c p {C with normal:=λl' w'=>VJ P pl C r l' w'} l w
def uR(P:Program)(pl:n_)(rs:List ResultVar)(R:Ending->World->Prop):Nat->List (Code×Nat)->Fr->World->Prop
 |0,_,_,_=>False
 |_+1,[],l,w=>(lT P rs R).normal l w
 |n+1,(c,p)::r,l,w=>match c with
  |.seq a b=>aq (aKh (.seq a b)) (uR P pl rs R n ((a,2*p)::(b,2*p+1)::r) l w) (vc P pl (.seq a b) p {lT P rs R with normal:=λl' w'=>uR P pl rs R n r l' w'} l w)
  |.cond v x y=>aq (aKh (.cond v x y)) (cS l v λv=>match v with
    |.bool t=>aq t (uR P pl rs R n ((x,2*p)::r) l w) (uR P pl rs R n ((y,2*p+1)::r) l w)
    |_=>False) (vc P pl (.cond v x y) p {lT P rs R with normal:=λl' w'=>uR P pl rs R n r l' w'} l w)
  |.region id ⟨ops⟩ false=>match DM ops with
   |some (pre,d,f,xs)=>uG P ops (λl' w'=>cS l' f λfv=>gj fv λg first cap=>wg l' xs λvs=>aq (cY P g&&d.guard.isNone&&d.dst.isNone) (VJ P pl (aK9 P rs R g (first++(vs++cap)) l') r l' w') False)
     (λc w'=>R (.panicked c) w') pre l w
   |none=>vc P pl (.region id ⟨ops⟩ false) p {lT P rs R with normal:=λl' w'=>uR P pl rs R n r l' w'} l w
  |c=>vc P pl c p {lT P rs R with normal:=λl' w'=>uR P pl rs R n r l' w'} l w
def asl{P:Program}{pl:n_}{fn:Func}{R:Ending->World->Prop}:∀(c:Code) (p:Nat) (l:Fr) (w:World),yS P pl fn.results.toList R c p l w->c.wp P (bodyPostD P fn R) (act l []) w:=by
 have plain:∀(c:Code) (p:Nat) (l:Fr) (w:World) (N:Fr->World->Prop) (Q:Exit->Act->World->Prop),vc P pl c p {lT P fn.results.toList R with normal:=N} l w->(∀l' w',N l' w'->Q .normal (act l' []) w')->
   (∀a w',bodyPostD P fn R .ret a w'->Q .ret a w')->(∀ch a w',bodyPostD P fn R (.panic ch) a w'->Q (.panic ch) a w')->c.wp P Q (act l []) w:=by
  intro c p l w N Q h hN hQr hQp;refine nP (ds:=[]) c p _ l w Q h (λl' w' _ hk=>hN l' w' hk) (λi l' w' _ hk=>hk.elim) (λl' w' hk=>hQr _ _ ?_) (λl' ch w' _ hk=>hQp _ _ _ hk);obtain⟨vs,h1,h2⟩:=aIg (ds:=[]) hk;exact⟨_,h1,h2⟩
 have ends:∀(c:Code) (p:Nat) (l:Fr) (w:World),vc P pl c p (lT P fn.results.toList R) l w->c.wp P (bodyPostD P fn R) (act l []) w:=by intro c p l w h;refine plain c p l w _ _ h (λl' w' hk=>?_) (λ_ _ h=>h) (λ_ _ _ h=>h);obtain⟨vs,h1,h2⟩:=aIg (ds:=[]) hk;exact⟨_,h1,h2⟩
 intro c
 induction c with
 |seq a b iha ihb=>
  intro p l w h;simp only[yS]at h;have Cd:∀(N:Fr->World->Prop),vc P pl a (2*p) {lT P fn.results.toList R with normal:=N} l w->(∀l' w',N l' w'->b.wp P (bodyPostD P fn R) (act l' []) w')->(Code.seq a b).wp P (bodyPostD P fn R) (act l []) w:=by intro N h hN;refine wp_seq (plain a (2*p) l w N _ h (λl' w' hk=>hN l' w' hk) (λa w' hq=>hq) (λch a w' hq=>hq))
  split at h
  .rename_i id ops
   split at h
   .rename_i pre d f xs hcut
    obtain⟨UM,ts,hd⟩:=Rt hcut;refine wp_seq (wp_region_list ?_);have h2:wpList P ⟨ops⟩ (Exit.then (b.wp P (bodyPostD P fn R)) (bodyPostD P fn R)) (pre++[d]) (act l []) w:=by
     refine abp (λl' c w' he=>he) h λl' w' hk=>?_;obtain⟨g,first,cap,hf,hk⟩:=Ga (cO (ds:=[]) hk);have hk:=aKg (ds:=[]) hk;obtain⟨hb,hk⟩:=ec hk;simp only[e_]at hb;obtain⟨⟨B5,hgd⟩,UN⟩:=hb;have hg:d.guard=none:=by simpa using hgd
     have hds:d.dst=none:=by simpa using UN
     unfold wpList;rw[aN (by simp[Region.wanted,hg])];refine .inl ?_;unfold Oper.wp;rw[abq hd hf,Oper.upon_defer,hds];show b.wp P (bodyPostD P fn R) (act l' [{target:=.fn (.func g) ⟨cap⟩,args:=⟨first++xs.map (act l' []).eval⟩}]) w'
     have inv:∀w:World,(invoke (.fn (.func g) ⟨cap⟩) ⟨first++xs.map (act l' []).eval⟩).run P w=.ok (.enter g ⟨first++(xs.map (act l' []).eval++cap)⟩) w:=by intro w;simp only[invoke];rw[KK B5];simp
     rw[aHL]at hk;have Nu:∀l2 w2,(LZ P fn.results.toList R g (first++(xs.map (act l' []).eval++cap)) l').normal l2 w2->bodyPostD P fn R .normal (act l2 [{target:=.fn (.func g) ⟨cap⟩,args:=⟨first++xs.map (act l' []).eval⟩}]) w2:=λl2 w2 hk2=>by refine leaves_cons (by simp) (inv w2) (hk2.mono ?_);rintro e u' w3 ⟨⟨v,rfl⟩,hu,hr⟩;dsimp only;rw[hu];obtain⟨vs,h1,h2⟩:=aIg (ds:=[{target:=.fn (.func g) ⟨cap⟩,args:=⟨first++xs.map (act l' []).eval⟩}]) hr;exact⟨_,h1,h2⟩
     have aKM:∀l2 w2,(LZ P fn.results.toList R g (first++(xs.map (act l' []).eval++cap)) l').ret l2 w2->bodyPostD P fn R .ret (act l2 [{target:=.fn (.func g) ⟨cap⟩,args:=⟨first++xs.map (act l' []).eval⟩}]) w2:=λl2 w2 hk2=>by refine leaves_cons (by simp) (inv w2) (hk2.mono ?_);rintro e u' w3 ⟨⟨v,rfl⟩,hu,hr⟩;dsimp only;rw[hu];obtain⟨vs,h1,h2⟩:=aIg (ds:=[{target:=.fn (.func g) ⟨cap⟩,args:=⟨first++xs.map (act l' []).eval⟩}]) hr;exact⟨_,h1,h2⟩
     cases hoff:Am (written b) fn.results.toList with
     |false=>exact nP (ds:=[{target:=.fn (.func g) ⟨cap⟩,args:=⟨first++xs.map (act l' []).eval⟩}]) b _ _ l' w' _ (hk.2 hoff) (λl2 w2 _ hk2=>Nu l2 w2 hk2) (λi l2 w2 _ hk2=>hk2.elim) (λl2 w2 hk2=>aKM l2 w2 hk2) (λl2 ch w2 ha hk2=>hk2.elim)
     |true=>refine nP (ds:=[{target:=.fn (.func g) ⟨cap⟩,args:=⟨first++xs.map (act l' []).eval⟩}]) b _ _ l' w' _ (hk.1 hoff) (λl2 w2 _ hk2=>Nu l2 w2 hk2) (λi l2 w2 _ hk2=>hk2.elim) (λl2 w2 hk2=>aKM l2 w2 hk2) (λl2 ch w2 ha hk2=>?_);refine leaves_cons (by simp) (inv w2) (hk2.mono ?_);rintro e u' w3 ⟨⟨v,rfl⟩,hu,hr⟩;dsimp only;rw[hu];obtain⟨vs,h1,h2⟩:=aIg (ds:=[{target:=.fn (.func g) ⟨cap⟩,args:=⟨first++xs.map (act l' []).eval⟩}]) hr;rw[api ha hoff]at h1;exact⟨_,h1,h2⟩
    rw[<-UM]at h2;exact h2
   .refine Cd (λl' w'=>yS P pl fn.results.toList R b (2*p+1) l' w') h (λl' w' hk=>ihb _ _ _ hk)
  .exact Cd (λl' w'=>yS P pl fn.results.toList R b (2*p+1) l' w') h (λl' w' hk=>ihb _ _ _ hk)
 |_=>intro p l w h;exact ends _ p l w h
def asm(A X:Act->World->Prop)(Q:Exit->Act->World->Prop):Exit.then A (Exit.then X Q)=Exit.then A Q:=by funext e a w;cases e<;>rfl
def abr{P:Program}{pl:n_}{C:B4}{ds:List Deferred}{Q:Exit->Act->World->Prop}(hn:∀l w,C.normal l w->Q .normal (act l ds) w)(hx:∀i l w,C.exit i l w->Q (.exit i) (act l ds) w)(hr:∀l w,C.ret l w->Q .ret (act l ds) w)(hp:∀l ch w,C.panic ch w->Q (.panic ch) (act l ds) w):
  ∀(r:List (Code×Nat)) (l:Fr) (w:World),VJ P pl C r l w->wj P Q (r.map Prod.fst) (act l ds) w
 |[],l,w,h=>hn l w h
 |(c,p)::r,l,w,h=>nP (ds:=ds) c p _ l w (Exit.then (wj P Q (r.map Prod.fst)) Q) h (λl' w' _ hk=>abr hn hx hr hp r l' w' hk) (λi l' w' _ hk=>hx i l' w' hk) (λl' w' hk=>hr l' w' hk) (λl' ch w' _ hk=>hp l' ch w' hk)
def aqs{P:Program}{pl:n_}{fn:Func}{R:Ending->World->Prop}:∀(n:Nat) (r:List (Code×Nat)) (l:Fr) (w:World),uR P pl fn.results.toList R n r l w->wj P (bodyPostD P fn R) (r.map Prod.fst) (act l []) w:=by
 intro n
 induction n with
 |zero=>intro r l w h;exact h.elim
 |succ n ih=>
  intro r l w h;have fin:∀l w,(lT P fn.results.toList R).normal l w->bodyPostD P fn R .normal (act l []) w:=λl w h=>by obtain⟨vs,h1,h2⟩:=aIg (ds:=[]) h;exact⟨_,h1,h2⟩
  have aKM:∀l w,(lT P fn.results.toList R).ret l w->bodyPostD P fn R .ret (act l []) w:=λl w h=>by obtain⟨vs,h1,h2⟩:=aIg (ds:=[]) h;exact⟨_,h1,h2⟩
  have Cd:∀(c:Code) (p:Nat) (r:List (Code×Nat)),vc P pl c p {lT P fn.results.toList R with normal:=λl' w'=>uR P pl fn.results.toList R n r l' w'} l w->wj P (bodyPostD P fn R) (c::r.map Prod.fst) (act l []) w:=λc p r h=>
   nP (ds:=[]) c p _ l w (Exit.then (wj P (bodyPostD P fn R) (r.map Prod.fst)) (bodyPostD P fn R)) h (λl' w' _ hk=>ih r l' w' hk) (λi l' w' _ hk=>hk.elim) (λl' w' hk=>aKM l' w' hk) (λl' ch w' _ hk=>hk)
  cases r with
  |nil=>exact fin l w h
  |cons x r=>
   obtain⟨c,p⟩:=x;simp only[uR]at h;split at h
   .rename_i a b
    rw[aHL]at h;cases hd:aKh (Code.seq a b)with
    |true=>have h2:=ih _ _ _ (h.1 hd);simp only[gi,wj]at h2⊢;refine wp_seq ?_;rw[asm];exact h2
    |false=>exact Cd _ _ _ (h.2 hd)
   .rename_i v x y
    rw[aHL]at h;cases hd:aKh (Code.cond v x y)with
    |true=>
     have h:=cO (ds:=[]) (h.1 hd);split at h
     .rename_i t hv
      rw[aHL]at h;refine wp_cond_split hv (λht=>?_) (λhf=>?_)
      .exact ih _ _ _ (h.1 ht)
      .exact ih _ _ _ (h.2 hf)
     .exact h.elim
    |false=>exact Cd _ _ _ (h.2 hd)
   .rename_i id ops
    split at h
    .rename_i pre d f xs hcut
     obtain⟨UM,ts,hd⟩:=Rt hcut;refine wp_region_list ?_;have h2:wpList P ⟨ops⟩ (Exit.then (wj P (bodyPostD P fn R) (r.map Prod.fst)) (bodyPostD P fn R)) (pre++[d]) (act l []) w:=by
      refine abp (λl' c w' he=>he) h λl' w' hk=>?_;obtain⟨g,first,cap,hf,hk⟩:=Ga (cO (ds:=[]) hk);have hk:=aKg (ds:=[]) hk;obtain⟨hb,hk⟩:=ec hk;simp only[e_]at hb;obtain⟨⟨B5,hgd⟩,UN⟩:=hb;have hg:d.guard=none:=by simpa using hgd
      have hds:d.dst=none:=by simpa using UN
      unfold wpList;rw[aN (by simp[Region.wanted,hg])];refine .inl ?_;unfold Oper.wp;rw[abq hd hf,Oper.upon_defer,hds];show wj P (bodyPostD P fn R) (r.map Prod.fst) (act l' [{target:=.fn (.func g) ⟨cap⟩,args:=⟨first++xs.map (act l' []).eval⟩}]) w'
      have inv:∀w:World,(invoke (.fn (.func g) ⟨cap⟩) ⟨first++xs.map (act l' []).eval⟩).run P w=.ok (.enter g ⟨first++(xs.map (act l' []).eval++cap)⟩) w:=by intro w;simp only[invoke];rw[KK B5];simp
      refine abr (C:=aK9 P fn.results.toList R g (first++(xs.map (act l' []).eval++cap)) l') (λl2 w2 hk2=>?_) (λi l2 w2 hk2=>False.elim hk2) (λl2 w2 hk2=>?_) (λl2 ch w2 hk2=>False.elim hk2) r l' w' hk
      .refine leaves_cons (by simp) (inv w2) (hk2.mono ?_)
       rintro e u' w3 ⟨⟨v,rfl⟩,hu,hr⟩;dsimp only;rw[hu];obtain⟨vs,h1,h2⟩:=aIg (ds:=[{target:=.fn (.func g) ⟨cap⟩,args:=⟨first++xs.map (act l' []).eval⟩}]) hr;exact⟨_,h1,h2⟩
      .refine leaves_cons (by simp) (inv w2) (hk2.mono ?_)
       rintro e u' w3 ⟨⟨v,rfl⟩,hu,hr⟩;dsimp only;rw[hu];obtain⟨vs,h1,h2⟩:=aIg (ds:=[{target:=.fn (.func g) ⟨cap⟩,args:=⟨first++xs.map (act l' []).eval⟩}]) hr;exact⟨_,h1,h2⟩
     rw[<-UM]at h2;exact h2
    .exact Cd _ _ _ h
   .exact Cd _ _ _ h
def aqt{P:Program}{f:FuncId}{fn:Func}{c:Code}{args:List Value}{w:World}{R:Ending->World->Prop}(pl:n_)(hf:P.funcs[f]?=some fn)(hb:fn.body=some c)
  (h:uR P pl fn.results.toList R 100 [(c,1)] (nS fn.ntmps args) w):Calls P f ⟨args⟩ w R:=by
 refine calls_of_wp_defers hf hb ?_;have e:(Array.mk args)++Array.replicate (fn.ntmps-(Array.mk args).size) undef=⟨nS fn.ntmps args⟩:=by apply kM;simp[BB]
 rw[e];have h2:=aqs 100 [(c,1)] _ w h;have e2:Exit.then (bodyPostD P fn R .normal) (bodyPostD P fn R)=bodyPostD P fn R:=by funext e a w;cases e<;>rfl
 simp only[gi,qR,wj,e2]at h2;exact h2
def aJm{P:Program}{f:FuncId}{fn:Func}{c:Code}{args:List Value}{w:World}{R:Ending->World->Prop}(pl:n_)(hf:P.funcs[f]?=some fn)(hb:fn.body=some c)
  (h:yS P pl fn.results.toList R c 1 (nS fn.ntmps args) w):Calls P f ⟨args⟩ w R:=by
 refine calls_of_wp_defers hf hb ?_;have e:(Array.mk args)++Array.replicate (fn.ntmps-(Array.mk args).size) undef=⟨nS fn.ntmps args⟩:=by apply kM;simp[BB]
 rw[e];exact asl c 1 _ w h
end Go.Proofs.YtihaaoehhgmphaaGreatDoor.Vc
