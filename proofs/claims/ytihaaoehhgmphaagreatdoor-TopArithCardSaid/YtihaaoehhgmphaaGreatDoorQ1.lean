/- Texts of one proof, one behind the other. Conditions: as each theorem names them. -/
import Derived.WalkKit
import Derived.Laws.CopyOwn
import Derived.Laws.StructEq
import Derived.WalkLawsBesides
import Derived.KernelRfl
import Derived.Lib.Builder
import Derived.Lib.UnsafeStr
import Derived.Lib.IfaceEq
import Derived.Stop.IfaceNil
import Derived.LaidEql
import Derived.Lib.ConvBytes
import Derived.Maps.AppendAt
import Derived.Deep.Quiet
import Derived.StillTail
import Derived.Lib.OthersKept
import Derived.Laws.Externs
import Derived.Laws.IdiomRangeMap
import Derived.MapKept
import Derived.OrdersHeld
set_option linter.all false
namespace Go.Proofs
def aG:=@if_neg
def aL:=@if_pos
def aR:=@of_decide_eq_true
def gJ:=@congrArg
def aV:=@Nat.le_refl
def aX:=@of_decide_eq_false
def bf:=@List.length_cons
def bU:=@Option.some.inj
def b6:=@Int.toNat_natCast
def aHf:=@List.length_nil
def cB:=@List.length_append
def cQ:=@Nat.zero_add
def dK:=@Nat.zero_le
def dY:=@List.mem_map
def aHl:=@List.length_take
def eX:=@decide_eq_false
def aHo:=@Bool.and_eq_true
def aHp:=@Nat.mul_one
def fe:=@decide_eq_true
def aHs:=@List.mem_cons
def gE:=@List.mem_singleton
def gI:=@List.map_cons
def gW:=@List.getElem?_eq_getElem
def ig:=@List.length_drop
def iV:=@if_false
def iU:=@List.getElem?_eq_some_iff
def jF:=@Array.ext'
def kJ:=@Nat.le_trans
def kI:=@List.getElem_mem
def kV:=@Bool.false_eq_true
def kW:=@List.mem_append
def lG:=@List.length_map
def mK:=@List.length_pos_iff
def nu:=@if_true
def aHP:=@Nat.lt_succ_self
def oz:=@Nat.eq_of_beq_eq_true
def oB:=@Nat.eq_zero_or_pos
def oC:=@decide_eq_true_eq
def oD:=@List.take_length
def aH0:=@Array.getElem?_eq_some_iff
def aH2:=@Nat.lt_of_lt_of_le
def aH1:=@Array.mem_of_getElem?
def pV:=@List.take_append_drop
def pU:=@List.eq_nil_of_length_eq_zero
def pW:=@List.flatMap_cons
def pY:=@List.all_eq_true
def aIh:=@List.ext_getElem?
def aIi:=@List.append_assoc
def qB:=@List.drop_eq_getElem_cons
def rK:=@List.map_nil
def rJ:=@List.getElem?_set_ne
def sZ:=@Bool.eq_iff_iff
def sW:=@List.getElem?_set_self
def sX:=@List.mem_append_left
def aIN:=@Prod.mk.injEq
def aIO:=@List.sum_cons
def sY:=@decide_eq_decide
def ug:=@List.append_nil
def t_:=@List.getElem?_eq_none
def aI0:=@List.mem_append_right
def ue:=@List.suffix_cons
def uf:=@List.not_mem_nil
def uj:=@or_false
def ud:=@List.contains_cons
def aJl:=@List.getElem?_map
def wu:=@List.take_of_length_le
def wB:=@List.size_toArray
def aJk:=@List.mem_of_getElem?
def wD:=@List.map_append
def aJj:=@List.exists_cons_of_ne_nil
def yh:=@Bool.false_or
def yf:=@List.mapM_cons
def yc:=@List.map_toArray
def x_:=@List.getElem?_append_left
def yq:=@Ne.symm
def yl:=@Nat.lt_or_ge
def yg:=@List.mem_range
def yb:=@Classical.not_not
def yj:=@List.all_cons
def yd:=@List.suffix_refl
def ye:=@List.drop_length
def aJZ:=@decide_eq_false_iff_not
def aJ2:=@List.getElem?_take
def zY:=@List.length_set
def zZ:=@List.foldl_cons
def aJ4:=@Nat.add_mul
def aJY:=@List.getElem?_append_right
def aJ5:=@Prod.mk.inj
def BN:=@List.getElem?_toArray
def BX:=@List.cons_append
def BM:=@Nat.add_sub_cancel_left
def BO:=@List.mem_cons_of_mem
def BU:=@List.drop_succ_cons
def BY:=@Nat.le_add_right
def B8:=@beq_iff_eq
def B2:=@Bool.true_and
def BZ:=@Nat.min_eq_left
def B6:=@Nat.le_succ
def B0:=@List.drop_drop
def Dz:=@Bool.and_eq_false_iff
def DG:=@List.getElem?_drop
def DN:=@List.getElem?_set
def DY:=@Nat.mod_lt
def DR:=@Nat.lt_irrefl
def DU:=@List.map_map
def DE:=@List.dropWhile_cons
def DS:=@Bool.or_false
def DA:=@List.contains_iff_mem
def FU:=@Array.getElem?_modify
def Gk:=@Nat.add_zero
def Gj:=@Nat.add_assoc
def F6:=@Bool.not_eq_true'
def Gb:=@List.nil_append
def Gc:=@Option.map_some
def Gl:=@Nat.zero_mul
def F7:=@Option.some.injEq
def F8:=@List.take_add_one
def FZ:=@List.filter_eq_self
def F1:=@List.pairwise_cons
def Gm:=@Nat.ne_of_lt
def FV:=@List.mem_of_mem_drop
def FO:=@List.take_succ_eq_append_getElem
def FT:=@Decidable.byContradiction
def F9:=@List.contains_nil
def F2:=@decide_eq_true_iff
def Kj:=@List.getElem?_append
def Kq:=@Array.length_toList
def J8:=@Array.mapM_eq_mapM_toList
def KB:=@Nat.le_of_not_lt
def KG:=@Bool.or_eq_true
def J3:=@Array.getD_eq_getD_getElem?
def Kg:=@List.set_append_right
def KH:=@UInt8.toNat_inj
def aKj:=@Array.toList_push
def Kh:=@Array.getElem?_toList
def Ky:=@List.filter_congr
def KP:=@List.drop_zero
def K1:=@UInt8.not_lt
def K2:=@Nat.le_of_lt
def J6:=@List.isPrefixOf_iff_prefix
def Kk:=@List.mem_of_mem_take
def KC:=@Option.bind_some
def K3:=@List.sum_nil
def Kr:=@List.takeWhile_cons
def KQ:=@Bool.and_false
def Kz:=@UInt8.ofNat_toNat
def K4:=@Int.lt_or_le
def Ki:=@List.count_cons_of_ne
def Qs:=@List.getElem?_cons
def PB:=@List.setIfInBounds_toArray
def PF:=@List.extract_eq_take_drop
def PY:=@Nat.le_of_ble_eq_true
def Ry:=@decide_false
def Q4:=@Option.map_none
def QO:=@List.isEmpty_iff
def QB:=@Array.size_append
def PR:=@Array.getElem?_eq_none
def QS:=@List.mem_flatMap
def Q5:=@List.find?_some
def PG:=@List.mem_of_find?_eq_some
def QC:=@List.nodup_append
def Q6:=@List.nodup_cons
def Qt:=@Nat.add_sub_cancel
def P7:=@Bool.or_eq_false_iff
def Qg:=@beq_eq_false_iff_ne
def Qu:=@List.mem_cons_self
def Qh:=@Nat.mul_le_mul_left
def Rk:=@Bool.and_true
def PZ:=@List.length_replicate
def PC:=@Int.tmod_eq_emod_of_nonneg
def Rz:=@Nat.ne_of_gt
def Q7:=@List.mem_filter
def RA:=@Nat.mul_comm
def Qi:=@List.mergeSort_perm
def Rc:=@Bool.false_and
def Re:=@List.take_take
def RB:=@Nat.le_of_eq
def Q8:=@Int.one_ne_zero
def Qj:=@List.flatMap_append
def Rl:=@Bool.or_assoc
def QT:=@List.all_reverse
def QD:=@List.count_append
def PM:=@Int.eq_ofNat_of_zero_le
def PN:=@List.getElem?_cons_zero
def QU:=@Option.getD_some
def QE:=@Bool.eq_false_iff
def aKW:=@Array.toList_setIfInBounds
def Yf:=@Option.map_eq_some_iff
def YJ:=@not_true_eq_false
def YO:=@Nat.mod_eq_of_lt
def Yq:=@Array.toList_append
def Yx:=@Array.empty_append
def Yp:=@Nat.mul_le_mul_right
def XZ:=@List.take_append_of_le_length
def aKX:=@Array.setIfInBounds_comm
def Yy:=@List.find?_eq_none
def X_:=@Array.getElem?_replicate
def Yz:=@BitVec.toNat_ofInt
def YP:=@BitVec.toNat_and
def YA:=@List.set_cons_zero
def XW:=@Array.getElem?_setIfInBounds_ne
def YQ:=@List.filter_cons
def YB:=@Nat.pos_of_ne_zero
def Ym:=@List.sizeOf_lt_of_mem
def YK:=@UInt8.le_antisymm
def YC:=@Nat.eq_or_lt_of_le
def X6:=@List.getD_eq_getElem?_getD
def Yr:=@List.take_succ_cons
def Yg:=@List.drop_of_length_le
def Ya:=@List.getElem?_take_of_lt
def YD:=@List.filter_append
def X7:=@Int.fdiv_eq_ediv_of_nonneg
def YR:=@List.cons_ne_nil
def Yt:=@List.length_reverse
def Yu:=@List.replicate_succ
def YS:=@List.getElem_map
end Go.Proofs
namespace Go.Proofs.YtihaaoehhgmphaaGreatDoor
open IntKind Go.RowKit
def Iw(cs:Array Value)(fz:Nat×Nat):Prop:=fz.2=0\/cs.size<=fz.1
def Row(w:World)(g:Nat)(t:TypeId)(cs:Array Value):Prop:=∃fz,w.heap[g]?=some (.cells cs t fz)/\Iw cs fz
structure Mod(S:Nat->Prop)(w w':World):Prop where
 os:w'.os=w.os
 tape:w'.tape=w.tape
 output:w'.output=w.output
 size:w.heap.size<=w'.heap.size
 block:∀k,k<w.heap.size->¬S k->w'.heap[k]?=w.heap[k]?
section
variable{w w':World}{g:Nat}{t:TypeId}{cs:Array Value}{S:Nat->Prop}
def Row.Wa(h:w.heap[g]?=some (.cells cs t (0,0))):Row w g t cs:=⟨_,h,.inl rfl⟩
def Row.lt(h:Row w g t cs):g<w.heap.size:=by obtain⟨fz,h,_⟩:=h;exact(aH0.1 h).1
def Row.cell(h:Row w g t cs)(i:Nat):w.cell? ⟨g,i,none⟩=cs[i]?:=by obtain⟨fz,h,_⟩:=h;exact cell_of_row w g i cs t fz h
def Row.dy(h:Row w g t cs){i:Nat}{v:Value}(hv:cs[i]?=some v):w.cell? ⟨g,i,none⟩=some v:=(h.cell i).trans hv
def Row.frozen(h:Row w g t cs){i:Nat}(hi:i<cs.size):w.frozen? ⟨g,i,none⟩=false:=by obtain⟨⟨lo,hi'⟩,h,hf⟩:=h;simp only[World.frozen?,h,Dz,aJZ];rcases hf with hf|hf<;>simp only at hf<;>omega
def Row.same(h:Row w g t cs)(hb:w'.heap[g]?=w.heap[g]?):Row w' g t cs:=by obtain⟨fz,h,hf⟩:=h;exact⟨fz,hb.trans h,hf⟩
def Row.new(w:World)(t:TypeId)(cs:Array Value):Row (w.alloc (.cells cs t)) w.heap.size t cs:=Row.Wa (heap_alloc_new w _)
def Row.drew(h:Row w g t cs):Row w.drew g t cs:=h
def Row.alloc(h:Row w g t cs)(o:Obj):Row (w.alloc o) g t cs:=h.same (Below.heap_alloc w o g h.lt)
def Row.set(h:Row w g t cs)(i:Nat)(u:Value):Row (w.setCell ⟨g,i,none⟩ u) g t (cs.setIfInBounds i u):=by obtain⟨fz,h,hf⟩:=h;refine⟨fz,?_,by simpa[Iw]using hf⟩;simp[World.setCell,FU,h]
def Row.far(h:Row w g t cs){p:Addr}(hp:g≠p.block)(u:Value):Row (w.setCell p u) g t cs:=h.same (Below.heap_setCell w p u g hp)
def Row.setRow(h:Row w g t cs)(cs':Array Value)(hs:cs'.size=cs.size:=by simp):Row (w.setRow g cs') g t cs':=by obtain⟨fz,h,hf⟩:=h;exact⟨fz,setRow_heap w g cs cs' t _ h,by simpa[Iw,hs]using hf⟩
def Row.Sk(h:Row w g t cs){g':Nat}(hp:g≠g')(cs':Array Value):Row (w.setRow g' cs') g t cs:=h.same (setRow_other w g' g cs' hp)
def Row.below{B:Nat}(h:Row w g t cs)(hb:Below B w w')(hg:g<B):Row w' g t cs:=h.same (hb.block g hg)
def Row.mod(h:Row w g t cs)(hb:Mod S w w')(hg:¬S g):Row w' g t cs:=h.same (hb.block g h.lt hg)
def Row.grown{row:Option Nat}(h:Row w g t cs)(hb:w.grownBy w' row)(hg:some g≠row):Row w' g t cs:=h.same (hb.block g h.lt hg)
def Row.ne{g':Nat}{t':TypeId}{cs':Array Value}(h:Row w g t cs)(h':Row w g' t' cs')(hne:t≠t'):g≠g':=by rintro rfl;obtain⟨fz,h,_⟩:=h;obtain⟨fz',h',_⟩:=h';rw[h]at h';injection h' with h';injection h' with _ ht;exact hne ht
def Mod.refl(S:Nat->Prop)(w:World):Mod S w w:=⟨rfl,rfl,rfl,aV _,λ_ _ _=>rfl⟩
def Mod.trans{a b c:World}{S T U:Nat->Prop}(h:Mod S a b)(k:Mod T b c)(hS:∀i,S i->U i)(hT:∀i,i<a.heap.size->T i->U i):Mod U a c:=
 ⟨k.os.trans h.os,k.tape.trans h.tape,k.output.trans h.output,kJ h.size k.size,
  λi hi hn=>(k.block i (aH2 hi h.size) (λe=>hn (hT i hi e))).trans (h.block i hi (λe=>hn (hS i e)))⟩
def Mod.weaken{a b:World}{S U:Nat->Prop}(h:Mod S a b)(hS:∀i,S i->U i):Mod U a b:=
 ⟨h.os,h.tape,h.output,h.size,λi hi hn=>h.block i hi (λe=>hn (hS i e))⟩
def Mod.drew{a b:World}(h:Mod S a b):Mod S a b.drew:=⟨h.os,h.tape,h.output,h.size,h.block⟩
def Mod.alloc{a b:World}(h:Mod S a b)(o:Obj):Mod S a (b.alloc o):=
 ⟨h.os,h.tape,h.output,kJ h.size (by simp),λi hi hn=>(Below.heap_alloc b o i (aH2 hi h.size)).trans (h.block i hi hn)⟩
def Mod.setCell{a b:World}(h:Mod S a b){p:Addr}(hp:S p.block\/a.heap.size<=p.block)(u:Value):Mod S a (b.setCell p u):=
 ⟨h.os,h.tape,h.output,by simpa[World.setCell]using h.size,λi hi hn=>(Below.heap_setCell b p u i (by
  rintro rfl;rcases hp with hp|hp
  .exact hn hp
  .omega)).trans (h.block i hi hn)⟩
def Mod.setRow{a b:World}(h:Mod S a b){g:Nat}(hp:S g\/a.heap.size<=g)(cs:Array Value):Mod S a (b.setRow g cs):=
 ⟨h.os,h.tape,h.output,by simpa using h.size,λi hi hn=>(setRow_other b g i cs (by
  rintro rfl;rcases hp with hp|hp
  .exact hn hp
  .omega)).trans (h.block i hi hn)⟩
def Mod.grown{a b c:World}(h:Mod S a b){row:Option Nat}(hg:b.grownBy c row)(hr:∀g,row=some g->S g\/a.heap.size<=g):Mod S a c:=
 ⟨hg.os.trans h.os,hg.tape.trans h.tape,hg.output.trans h.output,kJ h.size hg.size,
  λi hi hn=>(hg.block i (aH2 hi h.size) (λe=>by
   rcases hr i e.symm with hp|hp
   .exact hn hp
   .omega)).trans (h.block i hi hn)⟩
def Mod.below{a b:World}(h:Mod S a b){B:Nat}(hB:B<=a.heap.size)(hS:∀i,S i->B<=i):Below B a b:=
 ⟨h.os,h.tape,h.output,h.size,λk hk=>h.block k (by omega) (λe=>by have:=hS k e;omega)⟩
def Mod.S6{a b:World}(h:Below a.heap.size a b):Mod S a b:=⟨h.os,h.tape,h.output,h.size,λk hk _=>h.block k hk⟩
end
def aS(w:World)(B:Nat)(e:TypeId)(size:Nat)(v:Value)(n:Nat)(xs:List Value):Prop:=
 xs.length=n*size/\
 ((v=.slice none 0 0/\n=0)\/
  ∃g cap cur,v=.slice (some ⟨g,0,none⟩) n cap/\B<=g/\Row w g e cur/\n<=cap/\cap<=maxLen/\cur.size=cap*size/\cur.toList.take (n*size)=xs)
section
variable{w w':World}{B B':Nat}{e:TypeId}{size:Nat}{v:Value}{n:Nat}{xs:List Value}
def aS.nil(w:World)(B:Nat)(e:TypeId)(size:Nat):aS w B e size (.slice none 0 0) 0 []:=⟨by simp,.inl ⟨rfl,rfl⟩⟩
def aS.of(h:w.ownsRow B e size v n xs):aS w B e size v n xs:=by
 obtain⟨h1,h2|⟨g,cap,cur,rfl,h3,h4,h5⟩⟩:=h
 .exact⟨h1,.inl h2⟩
 .exact⟨h1,.inr ⟨g,cap,cur,rfl,h3,.Wa h4,h5⟩⟩
def aS.lt(h:aS w B e size v n xs):∀k,v.ownBlock=some k->B<=k/\k<w.heap.size:=by
 intro k hk;rcases h.2 with⟨rfl,_⟩|⟨g,cap,cur,rfl,hb,hg,_⟩
 .simp[Value.ownBlock]at hk
 .simp[Value.ownBlock]at hk
  subst hk;exact⟨hb,hg.lt⟩
def aS.base(h:aS w B e size v n xs)(hb:∀k,v.ownBlock=some k->B'<=k):aS w B' e size v n xs:=by
 obtain⟨h1,h2|⟨g,cap,cur,rfl,_,h3⟩⟩:=h
 .exact⟨h1,.inl h2⟩
 .exact⟨h1,.inr ⟨g,cap,cur,rfl,hb g rfl,h3⟩⟩
def aS.AO(h:aS w B e size v n xs):aS w 0 e size v n xs:=h.base (λ_ _=>dK _)
def aS.block(h:aS w B e size v n xs)(hb:∀k,v.ownBlock=some k->w'.heap[k]?=w.heap[k]?):aS w' B e size v n xs:=by
 obtain⟨h1,h2|⟨g,cap,cur,rfl,h0,h3,h4⟩⟩:=h
 .exact⟨h1,.inl h2⟩
 .exact⟨h1,.inr ⟨g,cap,cur,rfl,h0,h3.same (hb g rfl),h4⟩⟩
def aS.mod{T:Nat->Prop}(h:aS w B e size v n xs)(hm:Mod T w w')(hT:∀k,v.ownBlock=some k->¬T k):aS w' B e size v n xs:=
 h.block λk hk=>hm.block k (h.lt k hk).2 (hT k hk)
def aS.alloc(h:aS w B e size v n xs)(o:Obj):aS (w.alloc o) B e size v n xs:=
 h.block λk hk=>Below.heap_alloc w o k (h.lt k hk).2
def aS.drew(h:aS w B e size v n xs):aS w.drew B e size v n xs:=h
def aS.far(h:aS w B e size v n xs){p:Addr}(hp:v.ownBlock≠some p.block)(u:Value):aS (w.setCell p u) B e size v n xs:=
 h.block λk hk=>Below.heap_setCell w p u k (λe=>hp (by rw[hk,e]))
def aS.grown{row:Option Nat}(h:aS w B e size v n xs)(hg:w.grownBy w' row)(hne:∀k,v.ownBlock=some k->some k≠row):aS w' B e size v n xs:=
 h.block λk hk=>hg.block k (h.lt k hk).2 (hne k hk)
def aS.form(h:aS w B e size v n xs):∃p c,v=.slice p n c:=by
 rcases h.2 with⟨rfl,rfl⟩|⟨g,cap,cur,rfl,_⟩
 .exact⟨_,_,rfl⟩
 .exact⟨_,_,rfl⟩
def aS.row(h:aS w B e size v n xs)(hn:0<n):∃g cap cur,v=.slice (some ⟨g,0,none⟩) n cap/\B<=g/\Row w g e cur/\n<=cap/\cur.size=cap*size/\cur.toList.take (n*size)=xs:=by
 obtain⟨h1,h2|⟨g,cap,cur,rfl,h0,h3,h4,_,h6,h7⟩⟩:=h
 .omega
 .exact⟨g,cap,cur,rfl,h0,h3,h4,h6,h7⟩
def aS.typed(h:aS w B e size v n xs){k:Nat}(hk:v.ownBlock=some k):∃cur,Row w k e cur:=by
 obtain⟨h1,⟨rfl,_⟩|⟨g,cap,cur,rfl,h0,h3,_⟩⟩:=h
 .cases hk
 .obtain rfl:=bU hk
  exact⟨cur,h3⟩
def aS.cells(h:aS w B e size v n xs){g:Nat}(hg:v.ownBlock=some g):∀j u,xs[j]?=some u->w.cell? ⟨g,j,none⟩=some u:=by
 intro j u hu;rcases h.2 with⟨rfl,_⟩|⟨g',cap,cur,rfl,_,hgg,_,_,_,Es⟩
 .simp[Value.ownBlock]at hg
 .simp[Value.ownBlock]at hg
  subst hg;rw[<-Es,aJ2]at hu;split at hu
  .exact hgg.dy (by simpa using hu)
  .cases hu
def aS.length(h:aS w B e size v n xs):xs.length=n*size:=h.1
def Li(P:Program)(g o:Nat)(t:TypeId):∀(vs:List Value) (i:Nat) (cur:Array Value) (w:World),Row w g t cur->o+i+vs.length<=cur.size->(∀v∈vs,v.oneCell'=true)->
  (storeCells ⟨g,o,none⟩ vs i).run P w=.ok () (w.setRow g (cur.toList.take (o+i)++vs++cur.toList.drop (o+i+vs.length)).toArray)
 |[],i,cur,w,hg,_,_=>by obtain⟨fz,hg,_⟩:=hg;simp only[storeCells,ug,aHf,Gk,pV,Array.toArray_toList];rw[setRow_self w g cur t fz hg];rfl
 |v::rest,i,cur,w,hg,hl,h1=>by
  have hi:o+i<cur.size:=by simp at hl;omega
  have Vk:(⟨g,o,none⟩:Addr).add i=⟨g,o+i,none⟩:=by unfold Addr.add;split<;>simp_all
  have hcell:w.cell? ⟨g,o+i,none⟩=some cur[o+i]:=by rw[hg.cell];simp[hi]
  have ayR:=hg.frozen hi;have hg1:Row (w.setRow g (cur.setIfInBounds (o+i) v)) g t (cur.setIfInBounds (o+i) v):=hg.setRow _;obtain⟨fz,hg0,_⟩:=hg;have hst:(store ((⟨g,o,none⟩:Addr).add i) v).run P w=.ok () (w.setRow g (cur.setIfInBounds (o+i) v)):=by rw[Vk,run_store P w _ v _ (h1 v (by simp)),hcell];simp[ayR,setCell_eq_setRow w g (o+i) cur t fz v hg0]
  have ih:=Li P g o t rest (i+1) (cur.setIfInBounds (o+i) v) (w.setRow g (cur.setIfInBounds (o+i) v)) hg1 (by simp at hl⊢;omega) (λx hx=>h1 x (by simp[hx]));simp only[storeCells,Sem.run_bind,hst,Result.andThen_ok,ih,setRow_setRow];congr 3;simp only[aKW];apply aIh;intro j;simp only[Kj,aJ2,DG,aHl,zY,cB,DN,bf,Kq,Qs]
  grind
end
end Go.Proofs.YtihaaoehhgmphaaGreatDoor
namespace Go.Proofs.YtihaaoehhgmphaaGreatDoor.Vc
open IntKind Go.RowKit
abbrev S(l:List UInt8):ByteArray:=⟨⟨l⟩⟩
abbrev Fr:=List Value
def an(c:Bool)(A B:Prop):Prop:=match c with
 |true=>A
 |false=>B
def aA{c:Bool}{A B:Prop}(ht:c=true->A)(hf:c=false->B):an c A B:=by
 cases c
 .exact hf rfl
 .exact ht rfl
@[simp]theorem asf(A B:Prop):an true A B=A:=rfl
@[simp]theorem aqn(A B:Prop):an false A B=B:=rfl
def gK{c:Bool}{A B:Prop}:an c A B↔(c=true->A)/\(c=false->B):=by cases c<;>simp[an]
def aB{α:Type}(p:Option α)(K:α->Prop):Prop:=match p with
 |some a=>K a
 |none=>False
@[simp]theorem aaE{α:Type}(a:α)(K:α->Prop):aB (some a) K=K a:=rfl
@[simp]theorem aFS{α:Type}(K:α->Prop):aB none K=False:=rfl
def Ah{α:Type}{p:Option α}{K:α->Prop}(h:aB p K):∃a,p=some a/\K a:=by
 cases p with
 |none=>exact h.elim
 |some a=>exact⟨a,rfl,h⟩
inductive iZ where
 |int(k:IntKind)
 |bool
 |str
 |ptr
 |slc
 |raw
 deriving DecidableEq
def HD:Value->iZ
 |.int k _=>.int k
 |.bool _=>.bool
 |.string _=>.str
 |.pointer _=>.ptr
 |.slice _ _ _=>.slc
 |_=>.raw
def El:iZ->(Value->Prop)->Prop
 |.int k,K=>∃n:Int,K (.int k n)
 |.bool,K=>∃b:Bool,K (.bool b)
 |.str,K=>∃s:List UInt8,K (.string (S s))
 |.ptr,K=>∃p:Option Addr,K (.pointer p)
 |.slc,K=>∃(p:Option Addr) (n c:Nat),K (.slice p n c)
 |.raw,K=>∃v:Value,v.oneCell'=true/\K v
def GW:List iZ->(List Value->Prop)->Prop
 |[],K=>K []
 |x::r,K=>El x λv=>GW r λvs=>K (v::vs)
def Hf:iZ->(Value->Prop)->Prop
 |.int k,K=>∀n:Int,K (.int k n)
 |.bool,K=>∀b:Bool,K (.bool b)
 |.str,K=>∀s:List UInt8,K (.string (S s))
 |.ptr,K=>∀p:Option Addr,K (.pointer p)
 |.slc,K=>∀(p:Option Addr) (n c:Nat),K (.slice p n c)
 |.raw,K=>∀v:Value,K v
def LK:List iZ->(List Value->Prop)->Prop
 |[],K=>K []
 |x::r,K=>Hf x λv=>LK r λvs=>K (v::vs)
def Lx{x:iZ}{K:Value->Prop}(h:El x K):∃v,v.oneCell'=true/\K v:=by
 cases x<;>simp only[El]at h
 .obtain⟨n,h⟩:=h;exact⟨_,rfl,h⟩
 .obtain⟨n,h⟩:=h;exact⟨_,rfl,h⟩
 .obtain⟨n,h⟩:=h;exact⟨_,rfl,h⟩
 .obtain⟨n,h⟩:=h;exact⟨_,rfl,h⟩
 .obtain⟨p,n,c,h⟩:=h;exact⟨_,rfl,h⟩
 .exact h
def ZP{l:List iZ}{K:List Value->Prop}(h:GW l K):∃vs:List Value,vs.length=l.length/\(∀v∈vs,v.oneCell'=true)/\K vs:=by
 induction l generalizing K with
 |nil=>exact⟨[],rfl,by simp,h⟩
 |cons x r ih=>obtain⟨v,hv,h⟩:=Lx h;obtain⟨vs,hl,h1,h⟩:=ih h;exact⟨v::vs,by simp[hl],by simpa using⟨hv,h1⟩,h⟩
def eR:iZ->Type->Type
 |.int _,X=>Int->X
 |.bool,X=>Bool->X
 |.str,X=>List UInt8->X
 |.ptr,X=>Option Addr->X
 |.slc,X=>Option Addr->Nat->Nat->X
 |.raw,X=>Value->X
def gG:List iZ->Type->Type
 |[],X=>X
 |x::r,X=>eR x (gG r X)
def eR.app{X:Type}:(x:iZ)->eR x X->Value->(X->Prop)->Prop
 |.int k,f,.int k' n,K=>an (decide (k=k')) (K (f n)) False
 |.bool,f,.bool b,K=>K (f b)
 |.str,f,.string ⟨⟨l⟩⟩,K=>K (f l)
 |.ptr,f,.pointer p,K=>K (f p)
 |.slc,f,.slice p n c,K=>K (f p n c)
 |.raw,f,v,K=>K (f v)
 |_,_,_,_=>False
def gG.app{X:Type}:(l:List iZ)->gG l X->List Value->(X->Prop)->Prop
 |[],f,[],K=>K f
 |x::r,f,v::vs,K=>eR.app x f v λg=>gG.app r g vs K
 |_,_,_,_=>False
def eR.Am{X:Type}{x:iZ}{f:eR x X}{v:Value}{K K':X->Prop}(h:eR.app x f v K)(hk:∀y,K y->K' y):eR.app x f v K':=by
 cases x<;>cases v<;>simp only[eR.app]at h⊢<;>first|exact h.elim|exact hk _ h|skip
 rename_i k k' n;cases hd:decide (k=k')<;>simp[hd]at h⊢;exact hk _ h
def eR.uI{X:Type}{x:iZ}{f:eR x X}{v:Value}{K:X->Prop}{Q:Value->Prop}(h:eR.app x f v K)(hq:Hf x Q):Q v:=by
 cases x<;>cases v<;>simp only[eR.app]at h<;>first|exact h.elim|skip
 .rename_i k k' n
  cases hd:decide (k=k')<;>simp[hd]at h;obtain rfl:=aR hd;exact hq n
 all_goals first|exact hq _|exact hq _ _ _|skip
def gG.Am{X:Type}{l:List iZ}{f:gG l X}{vs:List Value}{K K':X->Prop}(h:gG.app l f vs K)(hk:∀y,K y->K' y):gG.app l f vs K':=by
 induction l generalizing vs with
 |nil=>cases vs with
  |nil=>exact hk _ h
  |cons v vs=>exact h.elim
 |cons x r ih=>cases vs with
  |nil=>exact h.elim
  |cons v vs=>exact eR.Am h λg hg=>ih hg
def gG.uI{X:Type}{l:List iZ}{f:gG l X}{vs:List Value}{K:X->Prop}{Q:List Value->Prop}(h:gG.app l f vs K)(hq:LK l Q):Q vs:=by
 induction l generalizing vs Q with
 |nil=>cases vs with
  |nil=>exact hq
  |cons v vs=>exact h.elim
 |cons x r ih=>cases vs with
  |nil=>exact h.elim
  |cons v vs=>
   have h1:=eR.uI h hq;obtain⟨g,hg⟩:∃g,gG.app r g vs K:=by
    clear ih hq h1;cases x<;>cases v<;>simp only[gG.app,eR.app]at h<;>first|exact h.elim|exact⟨_,h⟩|skip
    rename_i k k' n;cases hd:decide (k=k')<;>simp[hd]at h;exact⟨_,h⟩
   exact ih (Q:=λvs=>Q (v::vs)) hg h1
inductive Ty where
 |leaf(x:iZ)
 |agg(l:List iZ)
 |eN(n:Nat)
def atN:Value->Ty
 |.agg ⟨cs⟩=>bif Nat.ble cs.length 16 then .agg (cs.map HD)else .eN cs.length
 |v=>.leaf (HD v)
def Ix(P:Program)(t:TypeId):Ty:=match P.info? t with
 |some i=>match i.zero with
  |some z=>atN z
  |none=>.eN 0
 |none=>.eN 0
def Nr:Ty->(Value->Prop)->Prop
 |.leaf x,K=>El x K
 |.agg l,K=>GW l λvs=>K (.agg ⟨vs⟩)
 |.eN n,K=>∃cs:List Value,cs.length=n/\K (.agg ⟨cs⟩)
def S7{x:Ty}{K:Value->Prop}(h:Nr x K):∃v,K v:=by
 cases x with
 |leaf x=>obtain⟨v,_,h⟩:=Lx h;exact⟨v,h⟩
 |agg l=>obtain⟨vs,_,_,h⟩:=ZP h;exact⟨_,h⟩
 |eN n=>obtain⟨cs,_,h⟩:=h;exact⟨_,h⟩
def UM(P:Program):List TypeId->(List Value->Prop)->Prop
 |[],K=>K []
 |t::r,K=>Nr (Ix P t) λv=>UM P r λvs=>K (v::vs)
def asg{P:Program}{l:List TypeId}{K:List Value->Prop}(h:UM P l K):∃vs,K vs:=by
 induction l generalizing K with
 |nil=>exact⟨[],h⟩
 |cons t r ih=>obtain⟨v,h⟩:=S7 h;obtain⟨vs,h⟩:=ih h;exact⟨v::vs,h⟩
def Et(P:Program)(t:TypeId)(K:Value->Prop):Prop:=match P.underlying t with
 |some (.tuple ⟨es⟩)=>UM P es λvs=>K (.tuple ⟨vs⟩)
 |_=>Nr (Ix P t) K
def LL{P:Program}{t:TypeId}{K:Value->Prop}(h:Et P t K):∃v,K v:=by
 unfold Et at h;split at h
 .obtain⟨vs,h⟩:=asg h;exact⟨_,h⟩
 .exact S7 h
def iy:Ty->Type->Type
 |.leaf x,X=>eR x X
 |.agg l,X=>gG l X
 |.eN _,X=>List Value->X
def dQ:List Ty->Type->Type
 |[],X=>X
 |x::r,X=>iy x (dQ r X)
def iy.app{X:Type}:(x:Ty)->iy x X->Value->(X->Prop)->Prop
 |.leaf x,f,v,K=>eR.app x f v K
 |.agg l,f,.agg ⟨vs⟩,K=>gG.app l f vs K
 |.eN n,f,.agg ⟨cs⟩,K=>cs.length=n/\K (f cs)
 |_,_,_,_=>False
def dQ.app{X:Type}:(l:List Ty)->dQ l X->List Value->(X->Prop)->Prop
 |[],f,[],K=>K f
 |x::r,f,v::vs,K=>iy.app x f v λg=>dQ.app r g vs K
 |_,_,_,_=>False
def UN:Ty->(Value->Prop)->Prop
 |.leaf x,K=>Hf x K
 |.agg l,K=>LK l λvs=>K (.agg ⟨vs⟩)
 |.eN n,K=>∀cs:List Value,cs.length=n->K (.agg ⟨cs⟩)
def AD:List Ty->(List Value->Prop)->Prop
 |[],K=>K []
 |x::r,K=>UN x λv=>AD r λvs=>K (v::vs)
def iy.Am{X:Type}{x:Ty}{f:iy x X}{v:Value}{K K':X->Prop}(h:iy.app x f v K)(hk:∀y,K y->K' y):iy.app x f v K':=by
 cases x with
 |leaf x=>exact eR.Am h hk
 |agg l=>cases v<;>first|exact h.elim|exact gG.Am h hk
 |eN n=>cases v<;>first|exact h.elim|exact⟨h.1,hk _ h.2⟩
def iy.uI{X:Type}{x:Ty}{f:iy x X}{v:Value}{K:X->Prop}{Q:Value->Prop}(h:iy.app x f v K)(hq:UN x Q):Q v:=by
 cases x with
 |leaf x=>exact eR.uI h hq
 |agg l=>cases v<;>first|exact h.elim|exact gG.uI h hq
 |eN n=>cases v<;>first|exact h.elim|exact hq _ h.1
def eR.Cf{X:Type}{x:iZ}{f:eR x X}{v:Value}{K:X->Prop}(h:eR.app x f v K):∃y,K y:=by
 cases x<;>cases v<;>simp only[eR.app]at h<;>first|exact h.elim|exact⟨_,h⟩|skip
 rename_i k k' n;cases hd:decide (k=k')<;>simp[hd]at h;exact⟨_,h⟩
def gG.Cf{X:Type}{l:List iZ}{f:gG l X}{vs:List Value}{K:X->Prop}(h:gG.app l f vs K):∃y,K y:=by
 induction l generalizing vs with
 |nil=>cases vs with
  |nil=>exact⟨_,h⟩
  |cons v vs=>exact h.elim
 |cons x r ih=>cases vs with
  |nil=>exact h.elim
  |cons v vs=>obtain⟨g,hg⟩:=eR.Cf h;exact ih hg
def iy.Cf{X:Type}{x:Ty}{f:iy x X}{v:Value}{K:X->Prop}(h:iy.app x f v K):∃y,K y:=by
 cases x with
 |leaf x=>exact eR.Cf h
 |agg l=>cases v<;>first|exact h.elim|exact gG.Cf h
 |eN n=>cases v<;>first|exact h.elim|exact⟨_,h.2⟩
def dQ.Am{X:Type}{l:List Ty}{f:dQ l X}{vs:List Value}{K K':X->Prop}(h:dQ.app l f vs K)(hk:∀y,K y->K' y):dQ.app l f vs K':=by
 induction l generalizing vs with
 |nil=>cases vs with
  |nil=>exact hk _ h
  |cons v vs=>exact h.elim
 |cons x r ih=>cases vs with
  |nil=>exact h.elim
  |cons v vs=>exact iy.Am h λg hg=>ih hg
def dQ.uI{X:Type}{l:List Ty}{f:dQ l X}{vs:List Value}{K:X->Prop}{Q:List Value->Prop}(h:dQ.app l f vs K)(hq:AD l Q):Q vs:=by
 induction l generalizing vs Q with
 |nil=>cases vs with
  |nil=>exact hq
  |cons v vs=>exact h.elim
 |cons x r ih=>cases vs with
  |nil=>exact h.elim
  |cons v vs=>obtain⟨g,hg⟩:=iy.Cf h;exact ih (Q:=λvs=>Q (v::vs)) hg (iy.uI h hq)
def tw:Fr->Nat->(Value->Prop)->Prop
 |[],_,_=>False
 |v::_,0,K=>K v
 |_::l,n+1,K=>tw l n K
def xh:Fr->Nat->Value->(Fr->Prop)->Prop
 |[],_,_,K=>K []
 |_::l,0,v,K=>K (v::l)
 |x::l,n+1,v,K=>xh l n v λl'=>K (x::l')
def yx{l:Fr}{t:Nat}{K:Value->Prop}(h:tw l t K):∃v,l[t]?=some v/\K v:=by
 induction l generalizing t with
 |nil=>exact h.elim
 |cons x l ih=>cases t with
  |zero=>exact⟨x,rfl,h⟩
  |succ t=>exact ih h
def Cg{l:Fr}{t:Nat}{v:Value}{K:Fr->Prop}(h:xh l t v K):K (l.set t v):=by
 induction l generalizing t K with
 |nil=>exact h
 |cons x l ih=>cases t with
  |zero=>exact h
  |succ t=>exact ih (K:=λl'=>K (x::l')) h
def qe(l:Fr):Option Nat->Value->(Fr->Prop)->Prop
 |some d,v,K=>xh l d v K
 |none,_,K=>K l
def put(l:Fr):Option Nat->Value->Fr
 |some d,v=>l.set d v
 |none,_=>l
def kX{l:Fr}{d:Option Nat}{v:Value}{K:Fr->Prop}(h:qe l d v K):K (put l d v):=by
 cases d with
 |none=>exact h
 |some d=>exact Cg h
def act(l:Fr)(ds:List Deferred):Act:=⟨⟨l⟩,ds⟩
def wV(l:Fr)(ds:List Deferred)(d:Option Nat)(v:Value):(act l ds).put d v=act (put l d v) ds:=by
 cases d with
 |none=>rfl
 |some d=>simp[act,Act.put,put,PB]
def cR(l:Fr):Operand->(Value->Prop)->Prop
 |.tmp t,K=>tw l t K
 |.const v,K=>K v
 |.global g,K=>K (.pointer (some ⟨g,0,none⟩))
 |.func f,K=>K (.func (.func f) #[] #[])
def cM{l:Fr}{ds:List Deferred}{x:Operand}{K:Value->Prop}(h:cR l x K):K ((act l ds).eval x):=by
 cases x with
 |tmp t=>obtain⟨v,hv,h⟩:=yx h;simpa[act,Act.eval,hv]using h
 |const v=>exact h
 |global g=>exact h
 |func f=>exact h
def xj(l:Fr):List Operand->(List Value->Prop)->Prop
 |[],K=>K []
 |x::r,K=>cR l x λv=>xj l r λvs=>K (v::vs)
def An{l:Fr}{ds:List Deferred}{xs:List Operand}{K:List Value->Prop}(h:xj l xs K):K (xs.map (act l ds).eval):=by
 induction xs generalizing K with
 |nil=>exact h
 |cons x r ih=>exact ih (cM (ds:=ds) h)
def ei(P:Program)(t:TypeId):Nat:=match P.info? t with
 |some i=>i.size
 |none=>0
def iI(P:Program)(t:TypeId):Bool:=match P.info? t with
 |some _=>true
 |none=>false
def acS(P:Program)(t:TypeId):List iZ:=match P.info? t with
 |some i=>match i.zero with
  |some (.agg ⟨cs⟩)=>cs.map HD
  |some v=>[HD v]
  |none=>[]
 |none=>[]
def afA(P:Program)(t:TypeId):iZ:=match P.info? t with
 |some i=>match i.zero with
  |some v=>HD v
  |none=>.raw
 |none=>.raw
def CP(Rd:Addr->Value->Prop)(w:World):Prop:=∀a u,Rd a u->w.cell? a=some u
def pZ{P:Program}{t:TypeId}(h:iI P t=true)(w:World):(sizeOf t).run P w=.ok (ei P t) w:=by
 unfold iI at h;unfold ei;cases hi:P.info? t with
 |none=>simp[hi]at h
 |some i=>simp[sizeOf,typeInfo,hi]
def yZ(v:Value)(K:Addr->Prop):Prop:=match v with
 |.pointer p=>aB p K
 |_=>False
def Ch{v:Value}{K:Addr->Prop}(h:yZ v K):∃a,v=.pointer (some a)/\K a:=by
 cases v<;>simp only[yZ]at h<;>first|exact h.elim|skip
 obtain⟨a,rfl,h⟩:=Ah h;exact⟨a,rfl,h⟩
def EK(v:Value)(K:IntKind->Int->Prop):Prop:=match v with
 |.int k n=>K k n
 |_=>False
def LV{v:Value}{K:IntKind->Int->Prop}(h:EK v K):∃k n,v=.int k n/\K k n:=by cases v<;>simp only[EK]at h<;>first|exact h.elim|exact⟨_,_,rfl,h⟩
def MW(Rd:Addr->Value->Prop)(a:Addr):Nat->List Value->Prop->Prop
 |_,[],K=>K
 |i,v::r,K=>Rd (a.add i) v/\MW Rd a (i+1) r K
def ash{Rd:Addr->Value->Prop}{a:Addr}{vs:List Value}:∀{i:Nat} {K:Prop},MW Rd a i vs K->(∀j u,vs[j]?=some u->Rd (a.add (i+j)) u)/\K:=by
 induction vs with
 |nil=>intro i K h;exact⟨by simp,h⟩
 |cons v r ih=>
  intro i K h;obtain⟨h0,h⟩:=h;obtain⟨h1,h2⟩:=ih h;refine⟨λj u hj=>?_,h2⟩;cases j with
  |zero=>simp at hj;subst hj;exact h0
  |succ j=>have:=h1 j u (by simpa using hj);rwa[Gj,Nat.add_comm 1 j]at this
def MX(P:Program)(t:TypeId)(a:Addr)(Rd:Addr->Value->Prop)(K:Value->Prop):Prop:=
 match P.underlying t with
 |some (.struct _)|some (.array _ _)=>an (iI P t)
   (an (Nat.ble (ei P t) 16)
    (GW (acS P t) λvs=>an (Nat.beq vs.length (ei P t)) (MW Rd a 0 vs (K (.agg ⟨vs⟩))) False)
    (∃cs:List Value,cs.length=ei P t/\(∀j u,cs[j]?=some u->Rd (a.add j) u)/\K (.agg ⟨cs⟩))) False
 |some _=>El (afA P t) λv=>Rd a v/\K v
 |none=>False
def A4:TypeDesc->Bool
 |.struct _|.array _ _=>true
 |_=>false
def D6{P:Program}{t:TypeId}{d:TypeDesc}(h:P.underlying t=some d)(w:World):(isAgg t).run P w=.ok (A4 d) w:=by unfold isAgg;rw[Sem.run_bind,run_underlying h w];cases d<;>rfl
def Z7{P:Program}{t:TypeId}{d:TypeDesc}(h:P.underlying t=some d)(hd:A4 d=true)(hi:iI P t=true){w:World}{a:Addr}{cs:List Value}
  (hl:cs.length=ei P t)(hc:∀j u,cs[j]?=some u->w.cell? (a.add j)=some u):(loadVar t a).run P w=.ok (.agg ⟨cs⟩) w:=by
 have h1:=D6 h w;rw[hd]at h1;have h2:=run_loadCells_list (P:=P) w a cs hc;rw[hl]at h2;simp only[loadVar,Sem.run_bind,h1,Result.andThen_ok,nu,pZ hi,h2,Sem.run_pure]
def abH{P:Program}{t:TypeId}{a:Addr}{Rd:Addr->Value->Prop}{K:Value->Prop}(h:MX P t a Rd K):
  ∃v,K v/\∀w,CP Rd w->(loadVar t a).run P w=.ok v w:=by
 unfold MX at h;have agg:∀d,P.underlying t=some d->A4 d=true->an (iI P t)
   (an (Nat.ble (ei P t) 16)
    (GW (acS P t) λvs=>an (Nat.beq vs.length (ei P t)) (MW Rd a 0 vs (K (.agg ⟨vs⟩))) False)
    (∃cs:List Value,cs.length=ei P t/\(∀j u,cs[j]?=some u->Rd (a.add j) u)/\K (.agg ⟨cs⟩))) False->∃v,K v/\∀w,CP Rd w->(loadVar t a).run P w=.ok v w:=by
  intro d hu hd h;rw[gK]at h;have hi:iI P t=true:=by
   cases hh:iI P t with
   |true=>rfl
   |false=>exact(h.2 hh).elim
  have h:=h.1 hi;rw[gK]at h;cases hb:Nat.ble (ei P t) 16 with
  |true=>
   obtain⟨vs,_,_,h⟩:=ZP (h.1 hb);rw[gK]at h;cases hl:Nat.beq vs.length (ei P t)with
   |false=>exact(h.2 hl).elim
   |true=>obtain⟨h1,h2⟩:=ash (h.1 hl);exact⟨_,h2,λw hw=>Z7 hu hd hi (oz hl) λj u hj=>hw _ _ (by simpa using h1 j u hj)⟩
  |false=>obtain⟨cs,h1,h2,h3⟩:=h.2 hb;exact⟨_,h3,λw hw=>Z7 hu hd hi h1 λj u hj=>hw _ _ (h2 j u hj)⟩
 split at h
 .rename_i hu;exact agg _ hu rfl h
 .rename_i hu;exact agg _ hu rfl h
 .rename_i d hs ha hu
  obtain⟨v,_,h1,h2⟩:=Lx h;refine⟨v,h2,λw hw=>?_⟩;have h3:=D6 hu w;have h4:A4 d=false:=by
   cases d<;>first|rfl|skip
   .rename_i n e;exact(ha n e rfl).elim
   .rename_i fs;exact(hs fs rfl).elim
  rw[h4]at h3;simp only[loadVar,Sem.run_bind,h3,Result.andThen_ok,kV,iV,run_load,hw _ _ h1]
 .exact h.elim
def Vl(op:BinOp)(a b:List UInt8)(K:Value->Prop):Prop:=match op with
 |.add=>a.length+b.length<=9223372036854775807/\K (.string (S (a++b)))
 |.eql=>K (.bool (decide (a=b)))
 |.neq=>K (.bool (!decide (a=b)))
 |.lss=>K (.bool (Op.bytesLess a b))
 |.geq=>K (.bool (!Op.bytesLess a b))
 |.leq=>K (.bool (Op.bytesLess a b||decide (a=b)))
 |.gtr=>K (.bool (!(Op.bytesLess a b||decide (a=b))))
 |_=>False
def Vm(op:BinOp)(k:IntKind)(a b:Int)(K:Value->Prop):Prop:=match op with
 |.add=>K (.int k (k.wrap (a+b)))
 |.sub=>K (.int k (k.wrap (a-b)))
 |.mul=>K (.int k (k.wrap (a*b)))
 |.quo=>b≠0/\K (.int k (k.wrap (a.tdiv b)))
 |.rem=>b≠0/\K (.int k (a.tmod b))
 |.and=>K (.int k (bits .and k a b))
 |.or=>K (.int k (bits .or k a b))
 |.xor=>K (.int k (bits .xor k a b))
 |.andNot=>K (.int k (bits .andNot k a b))
 |.eql=>K (.bool (decide (a=b)))
 |.neq=>K (.bool (!decide (a=b)))
 |.lss=>K (.bool (decide (a<b)))
 |.leq=>K (.bool (decide (a<=b)))
 |.gtr=>K (.bool (decide (b<a)))
 |.geq=>K (.bool (decide (b<=a)))
 |_=>False
def dZ{c:Bool}{A:Prop}(h:an c A False):c=true/\A:=by
 cases c
 .exact h.elim
 .exact⟨rfl,h⟩
def TF(P:Program)(t:TypeId)(x y:Value)(K:Bool->Prop):Prop:=match P.underlying t with
 |some (.int _)=>match x,y with
  |.int k a,.int k' b=>an (decide (k=k')) (K (decide (a=b))) False
  |_,_=>False
 |some .string=>match x,y with
  |.string ⟨⟨a⟩⟩,.string ⟨⟨b⟩⟩=>K (decide (a=b))
  |_,_=>False
 |some .bool=>match x,y with
  |.bool a,.bool b=>K (decide (a=b))
  |_,_=>False
 |_=>False
def SJ(P:Program)(xs ys:List Value):List Field->(Bool->Prop)->Prop
 |[],K=>K true
 |f::r,K=>an (decide (f.name≠ "_")) (tw xs f.offset λx=>tw ys f.offset λy=>TF P f.type x y λb=>SJ P xs ys r λb'=>K (b&&b')) False
def abI(P:Program)(t:TypeId):Bool:=match P.underlying t with
 |some (.struct _)=>true
 |_=>false
def yy(a:List UInt8):(S a).toList=a:=ByteArray.toList_mk a
def aps{P:Program}{t:TypeId}{x y:Value}{K:Bool->Prop}(h:TF P t x y K):
  ∃b,K b/\(∀d w,(Op.equalIn (d+1) t x y).run P w=.ok b w)/\∀(cs:Array Value) (off:Nat) (v:Value) (w:World),cs[off]?=some v->(part t cs off).run P w=.ok v w:=by
 have plain:∀{d:TypeDesc},P.underlying t=some d->A4 d=false->∀(cs:Array Value) (off:Nat) (v:Value) (w:World),cs[off]?=some v->(part t cs off).run P w=.ok v w:=by intro d hu hd cs off v w hv;have h3:=D6 hu w;rw[hd]at h3;simp only[part,Sem.run_bind,h3,Result.andThen_ok,kV,iV,hv,Sem.run_pure]
 unfold TF at h;split at h
 .rename_i k0 hu
  split at h
  .rename_i k a k' b
   rw[gK]at h;cases hd:decide (k=k')with
   |false=>exact(h.2 hd).elim
   |true=>obtain rfl:=aR hd;exact⟨_,h.1 hd,λd w=>by rw[run_equalIn_int w d t _ _ _ _ hu];rfl,plain hu rfl⟩
  .exact h.elim
 .rename_i hu
  split at h
  .rename_i a b
   refine⟨_,h,λd w=>?_,plain hu rfl⟩;have:=run_equalIn_string w d t (S a) (S b) hu;rw[yy,yy]at this;rw[show(Value.string ⟨⟨a⟩⟩)=.string (S a)from rfl,show(Value.string ⟨⟨b⟩⟩)=.string (S b)from rfl,this];congr 1;rw[sZ];simp
  .exact h.elim
 .rename_i hu
  split at h
  .rename_i a b
   refine⟨_,h,λd w=>?_,plain hu rfl⟩;rw[run_equalIn_bool' w d t a b hu];rfl
  .exact h.elim
 .exact h.elim
def ZE{P:Program}{xs ys:List Value}:∀{fs:List Field} {K:Bool->Prop},SJ P xs ys fs K->∃b,K b/\∀d w,(Op.eqFields (d+1) ⟨xs⟩ ⟨ys⟩ fs).run P w=.ok b w
 |[],K,h=>⟨true,h,λd w=>by simp[Op.eqFields]⟩
 |f::r,K,h=>by
  obtain⟨hn,h⟩:=dZ h;obtain⟨x,hx,h⟩:=yx h;obtain⟨y,hy,h⟩:=yx h;obtain⟨b,h,he,hp⟩:=aps h;obtain⟨b',hk,hr⟩:=ZE h;refine⟨b&&b',hk,λd w=>?_⟩;have hn:=aR hn;have h1:=hp ⟨xs⟩ f.offset x w (by simpa using hx);have h2:=hp ⟨ys⟩ f.offset y w (by simpa using hy);simp only[Op.eqFields,aL hn,Sem.run_bind,h1,h2,Result.andThen_ok,he d w];cases b with
  |true=>simpa using hr d w
  |false=>simp
def adQ(P:Program)(op:BinOp)(t:TypeId)(xs ys:List Value)(K:Value->Prop):Prop:=
 an (abI P t&& !P.stoodInHeld t&& !P.eqGuardType P.depth t) (SJ P xs ys (P.fieldsOf t).toList λb=>match op with
  |.eql=>K (.bool b)
  |.neq=>K (.bool (!b))
  |_=>False) False
def Z8{P:Program}{op:BinOp}{t:TypeId}{xs ys:List Value}{K:Value->Prop}(h:adQ P op t xs ys K):
  P.eqGuardType P.depth t=false/\∃v,K v/\∀w,(binOp op t (.agg ⟨xs⟩) (.agg ⟨ys⟩)).run P w=.ok v w:=by
 obtain⟨hb,h⟩:=dZ h;simp only[aHo,F6]at hb;obtain⟨⟨h1,h2⟩,h3⟩:=hb;obtain⟨b,hk,hr⟩:=ZE h;have ht:P.underlying t=some (.struct (P.fieldsOf t)):=by
  unfold abI at h1;unfold Program.fieldsOf;split at h1
  .rename_i fs hu
   rw[hu]
  .cases h1
 have heq:∀w,(Op.equalIn 10000 t (.agg ⟨xs⟩) (.agg ⟨ys⟩)).run P w=.ok b w:=λw=>by rw[show(10000:Nat)=9999+1 from rfl,run_equalIn_struct w 9999 t _ _ ht h2];exact hr 9998 w
 refine⟨h3,?_⟩;split at hk
 .exact⟨_,hk,λw=>by rw[run_eql_struct,heq w];rfl⟩
 .exact⟨_,hk,λw=>by rw[run_neq_struct,heq w];rfl⟩
 .exact hk.elim
def Ns(P:Program)(te:TypeId)(op:BinOp)(p q:Option Addr)(K:Bool->Prop):Prop:=match q with
 |none=>match op with
  |.eql=>K p.isNone
  |.neq=>K (!p.isNone)
  |_=>False
 |some b=>iI P te=true/\p=some b/\match op with
  |.eql=>K true
  |.neq=>K false
  |_=>False
def atO{P:Program}{te t:TypeId}(hu:P.underlying t=some (.pointer te)){op:BinOp}{p q:Option Addr}{K:Bool->Prop}(h:Ns P te op p q K):
  ∃b,K b/\∀w,(binOp op t (.pointer p) (.pointer q)).run P w=.ok (.bool b) w:=by
 cases q with
 |none=>
  have hd:∀d w,(Op.equalIn (d+1) t (.pointer p) (.pointer none)).run P w=.ok p.isNone w:=by intro d w;cases p<;>simp[Op.equalIn,run_underlying hu]
  have hq:∀w,(Op.equal t (.pointer p) (.pointer none)).run P w=.ok p.isNone w:=hd 9999;cases op<;>simp only[Ns]at h<;>first|exact h.elim|exact⟨_,h,λw=>by simp[binOp,hq w]⟩
 |some b=>
  obtain⟨hi,rfl,h⟩:=h;obtain⟨j,hj⟩:∃j,P.info? te=some j:=by
   unfold iI at hi;cases hj:P.info? te with
   |none=>rw[hj]at hi;cases hi
   |some j=>exact⟨j,rfl⟩
  cases op<;>simp only at h<;>first|exact h.elim|skip
  .refine⟨_,h,λw=>?_⟩
   have h:∀d:Nat,(Op.equalIn (d+1) t (.pointer (some b)) (.pointer (some b))).run P w=.ok true w:=λd=>by simp[Op.equalIn,run_underlying hu,sizeOf,typeInfo,hj,run_sameAddr_same]
   simp only[binOp];simp[Op.equal,Op.maxDepth,h 9999]
  .exact⟨_,h,λw=>Lib.run_neq_ptr_same w b hu hj⟩
def MY(P:Program)(op:BinOp)(t:TypeId)(x y:Value)(K:Value->Prop):Prop:=
 match x,y with
 |.int k a,.int k' b=>match op with
  |.shl=>0<=b/\K (.int k (k.wrap (a*2^(min b.toNat k.bits))))
  |.shr=>0<=b/\K (.int k (a.fdiv (2^(min b.toNat k.bits))))
  |op=>an (decide (k=k')) (Vm op k a b K) False
 |.string ⟨⟨a⟩⟩,.string ⟨⟨b⟩⟩=>Vl op a b K
 |.bool a,.bool b=>match P.underlying t with
  |some .bool=>match op with
   |.eql=>K (.bool (decide (a=b)))
   |.neq=>K (.bool (!decide (a=b)))
   |_=>False
  |_=>False
 |.pointer p,.pointer q=>match P.underlying t with
  |some (.pointer te)=>Ns P te op p q λb=>K (.bool b)
  |_=>False
 |.slice p _ _,.slice none _ _=>match P.underlying t with
  |some (.slice _)=>match op with
   |.eql=>K (.bool p.isNone)
   |.neq=>K (.bool (!p.isNone))
   |_=>False
  |_=>False
 |.map p,.map none=>match P.underlying t with
  |some (.map _ _)=>match op with
   |.eql=>K (.bool p.isNone)
   |.neq=>K (.bool (!p.isNone))
   |_=>False
  |_=>False
 |.agg ⟨xs⟩,.agg ⟨ys⟩=>adQ P op t xs ys K
 |_,_=>False
def atP{P:Program}{op:BinOp}{a b:List UInt8}{K:Value->Prop}(h:Vl op a b K):∃v,K v/\∀w,(Op.stringOp op (S a) (S b)).run P w=.ok v w:=by
 have he:((S a).toList==(S b).toList)=decide (a=b):=by rw[yy,yy,sZ];simp
 have hb:Op.bytesLess (S a).toList (S b).toList=Op.bytesLess a b:=by rw[yy,yy]
 cases op<;>simp only[Vl]at h<;>first|exact h.elim|skip
 .refine⟨_,h.2,λw=>?_⟩
  have:=run_string_add_sum (P:=P) w (S a) (S b) (by simpa[ByteArray.size]using h.1);rw[this];congr 2
 all_goals(refine⟨_,h,λw=>?_⟩;simp only[Op.stringOp,he,hb,Sem.run_pure])
def atQ{P:Program}{op:BinOp}{t:TypeId}{k:IntKind}{a b:Int}{K:Value->Prop}(hs:op≠.shl)(hr:op≠.shr)(h:Vm op k a b K):∃v,K v/\∀w,(binOp op t (.int k a) (.int k b)).run P w=.ok v w:=by
 cases op<;>simp only[Vm]at h<;>first|exact h.elim|exact absurd rfl hs|exact absurd rfl hr|skip
 all_goals first
  |(refine⟨_,h,λw=>?_⟩;first
    |(simp only[binOp_add,binOp_sub,binOp_mul,Op.intArith,Sem.run_pure];done)
    |(simp only[binOp_and,binOp_or,binOp_xor,binOp_andNot,intBits_and,intBits_or,intBits_xor,intBits_andNot,Sem.run_pure];done)
    |(simp only[binOp_lss,binOp_leq,binOp_gtr,binOp_geq,Sem.run_pure,gt_iff_lt,ge_iff_le];done)
    |(simp only[binOp_eql,binOp_neq,Sem.run_pure];rfl))
  |(refine⟨_,h.2,λw=>?_⟩;simp[binOp_quo,binOp_rem,Op.intDiv,h.1])
def asi{P:Program}{op:BinOp}{t:TypeId}{x y:Value}{K:Value->Prop}(h:MY P op t x y K):∃v,K v/\∀w,(binOp op t x y).run P w=.ok v w:=by
 unfold MY at h;split at h
 .rename_i k a k' b
  split at h
  .exact⟨_,h.2,λw=>by simp[binOp_shl,Op.shift,show¬b<0 by omega]⟩
  .exact⟨_,h.2,λw=>by simp[binOp_shr,Op.shift,show¬b<0 by omega]⟩
  .rename_i hs hr
   rw[gK]at h;cases hd:decide (k=k')with
   |false=>exact(h.2 hd).elim
   |true=>obtain rfl:=aR hd;exact atQ (λe=>hs e) (λe=>hr e) (h.1 hd)
 .rename_i a b
  obtain⟨v,h1,h2⟩:=atP (P:=P) h;refine⟨v,h1,λw=>?_⟩;have:=h2 w;cases op<;>simpa[binOp]using this
 .split at h
  .rename_i hu
   split at h<;>first|exact h.elim|skip
   .exact⟨_,h,λw=>by rw[run_eql_bool w t _ _ hu];rfl⟩
   .exact⟨_,h,λw=>by rw[run_neq_bool w t _ _ hu];rfl⟩
  .exact h.elim
 .rename_i p q
  split at h
  .rename_i e hu
   obtain⟨b,hk,hr⟩:=atO hu h;exact⟨_,hk,hr⟩
  .exact h.elim
 .rename_i p n c n' c'
  split at h
  .rename_i e hu
   have hd:∀d w,(Op.equalIn (d+1) t (.slice p n c) (.slice none n' c')).run P w=.ok p.isNone w:=by intro d w;cases p<;>simp[Op.equalIn,run_underlying hu]
   have hq:∀w,(Op.equal t (.slice p n c) (.slice none n' c')).run P w=.ok p.isNone w:=hd 9999;split at h<;>first|exact h.elim|skip
   .exact⟨_,h,λw=>by simp[binOp,hq w]⟩
   .exact⟨_,h,λw=>by simp[binOp,hq w]⟩
  .exact h.elim
 .rename_i p
  split at h
  .rename_i k e hu
   have hd:∀d w,(Op.equalIn (d+1) t (.map p) (.map none)).run P w=.ok p.isNone w:=by intro d w;cases p<;>simp[Op.equalIn,run_underlying hu]
   have hq:∀w,(Op.equal t (.map p) (.map none)).run P w=.ok p.isNone w:=hd 9999;split at h<;>first|exact h.elim|skip
   .exact⟨_,h,λw=>by simp[binOp,hq w]⟩
   .exact⟨_,h,λw=>by simp[binOp,hq w]⟩
  .exact h.elim
 .exact(Z8 h).2
 .exact h.elim
def Eu(op:BinOp)(v:Value)(K:Bool->Prop):Prop:=match v with
 |.nilIface=>(match op with
  |.eql=>K true
  |.neq=>K false
  |_=>False)
 |.iface _ _=>(match op with
  |.eql=>K false
  |.neq=>K true
  |_=>False)
 |_=>False
def AP(op:BinOp)(ty:TypeId)(k:IntKind)(n:Int)(v:Value)(K:Bool->Prop):Prop:=match v with
 |.nilIface=>(match op with
  |.eql=>K false
  |.neq=>K true
  |_=>False)
 |.iface tx (.int k' m)=>tx=ty/\k'=k/\(match op with
  |.eql=>K (decide (m=n))
  |.neq=>K (!decide (m=n))
  |_=>False)
 |_=>False
def Em(P:Program)(t:TypeId):Bool:=match P.underlying t with
 |some (.interface _)=>true
 |_=>false
def UO(P:Program)(t:TypeId):Bool:=match P.info? t with
 |some i=>i.comparable
 |none=>false
def Vn(P:Program)(t:TypeId):Bool:=match P.underlying t with
 |some (.int _)=>true
 |_=>false
def aaF{P:Program}{t:TypeId}(h:Em P t=true):∃ms,P.underlying t=some (.interface ms):=by
 unfold Em at h;split at h
 .exact⟨_,by assumption⟩
 .cases h
def asj{P:Program}{op:BinOp}{t:TypeId}{v:Value}{K:Bool->Prop}(ht:Em P t=true)(h:Eu op v K):∃b,K b/\∀w,(binOp op t v .nilIface).run P w=.ok (.bool b) w:=by
 obtain⟨ms,hu⟩:=aaF ht;have hi:P.isIface t=true:=by simp[Program.isIface,hu]
 unfold Eu at h;split at h
 .split at h
  .exact⟨_,h,λw=>run_eql_nil_nil_at w t hi⟩
  .exact⟨_,h,λw=>run_neq_nil_nil_at w t hi⟩
  .exact h.elim
 .split at h
  .exact⟨_,h,λw=>run_eql_iface_nil w t hi _ _⟩
  .exact⟨_,h,λw=>run_neq_iface_nil w t hi _ _⟩
  .exact h.elim
 .exact h.elim
def asl{P:Program}{op:BinOp}{t ty:TypeId}{k:IntKind}{n:Int}{v:Value}{K:Bool->Prop}(ht:Em P t=true)(hc:UO P ty=true)(hn:Vn P ty=true)(h:AP op ty k n v K):
  ∃b,K b/\∀w,(binOp op t v (.iface ty (.int k n))).run P w=.ok (.bool b) w:=by
 obtain⟨ms,hu⟩:=aaF ht;have I3:(P.info? ty).map (·.comparable)=some true:=by
  unfold UO at hc;split at hc
  .rename_i i hi
   rw[hi];simpa using hc
  .cases hc
 obtain⟨q,hq⟩:∃q,P.underlying ty=some (.int q):=by
  unfold Vn at hn;split at hn
  .exact⟨_,by assumption⟩
  .cases hn
 unfold AP at h;split at h
 .split at h
  .exact⟨_,h,λw=>run_eql_iface_nil_left w ty _ hu⟩
  .refine⟨_,h,λw=>?_⟩
   have h:∀d:Nat,(Op.equalIn (d+1) t .nilIface (.iface ty (.int k n))).run P w=.ok false w:=λd=>by simp[Op.equalIn,run_underlying hu]
   simp only[binOp];simp[Op.equal,Op.maxDepth,h 9999]
  .exact h.elim
 .rename_i tx k' m
  obtain⟨rfl,rfl,h⟩:=h;split at h
  .refine⟨_,h,λw=>?_⟩
   rw[Lib.run_eql_iface_int w _ _ hu I3 hq];rfl
  .refine⟨_,h,λw=>?_⟩
   cases hi:P.info? tx with
   |none=>simp[hi]at I3
   |some i=>
    have hcc:i.comparable=true:=by simpa[hi]using I3
    have h:∀d:Nat,(Op.equalIn (d+2) t (.iface tx (.int k' m)) (.iface tx (.int k' n))).run P w=.ok (m==n) w:=λd=>by simp[Op.equalIn,run_underlying hu,run_underlying hq,typeInfo,hi,hcc]
    simp only[binOp];simp[Op.equal,Op.maxDepth,h 9998];rfl
  .exact h.elim
 .exact h.elim
def Nt(P:Program)(op:BinOp)(t:TypeId)(x y:Value)(K:Value->Prop):Prop:=match y with
 |.iface ty (.int k n)=>an (Em P t&&UO P ty&&Vn P ty) (AP op ty k n x λb=>K (.bool b)) False
 |y=>MY P op t x y K
def atS{P:Program}{op:BinOp}{t:TypeId}{x y:Value}{K:Value->Prop}(h:Nt P op t x y K):∃v,K v/\∀w,(binOp op t x y).run P w=.ok v w:=by
 unfold Nt at h;split at h
 .obtain⟨hb,h⟩:=dZ h
  simp only[aHo]at hb;obtain⟨b,hk,hr⟩:=asl hb.1.1 hb.1.2 hb.2 h;exact⟨_,hk,hr⟩
 .exact asi h
def Wb(op:UnOp)(x:Value)(K:Value->Prop):Prop:=match op,x with
 |.not,.bool b=>K (.bool (!b))
 |.neg,.int k n=>K (.int k (k.wrap (0-n)))
 |.xor,.int k n=>K (.int k (bits .xor k (bif k.signed then-1 else k.max) n))
 |_,_=>False
def avA{P:Program}{op:UnOp}{x:Value}{K:Value->Prop}(h:Wb op x K):∃v,K v/\∀w,(Op.unary op x).run P w=.ok v w:=by
 unfold Wb at h;split at h
 .exact⟨_,h,λw=>rfl⟩
 .exact⟨_,h,λw=>rfl⟩
 .rename_i k n
  refine⟨_,h,λw=>?_⟩;cases hk:k.signed<;>simp[Op.unary,hk,intBits_xor]
 .exact h.elim
def Iy(P:Program)(e:TypeId):Bool:=match P.underlying e with
 |some (.int .u8)=>true
 |_=>false
def acT{P:Program}{e:TypeId}(h:Iy P e=true):P.underlying e=some (.int .u8):=by
 unfold Iy at h;split at h;·assumption
 .cases h
def s_(Rd:Addr->Value->Prop)(p:Option Addr)(n:Nat)(bs:List UInt8):Prop:=
 bs.length=n/\(0<n->∃a,p=some a/\∀(j:Nat) (b:UInt8),bs[j]?=some b->Rd (a.add j) (.int .u8 b.toNat))
def Ev(P:Program)(src dst:TypeId)(x:Value)(Rd:Addr->Value->Prop)(K:Value->Prop):Prop:=match x with
 |.int _ n=>match P.underlying src,P.underlying dst with
  |some _,some (.int k)=>K (.int k (k.wrap n))
  |_,_=>False
 |.string ⟨⟨s⟩⟩=>match P.underlying src,P.underlying dst with
  |some _,some .string=>K (.string (S s))
  |_,_=>False
 |.slice p n _=>match P.underlying src,P.underlying dst with
  |some (.slice e),some .string=>an (Iy P e) (∃bs:List UInt8,s_ Rd p n bs/\K (.string (S bs))) False
  |_,_=>False
 |_=>False
def foldl_push(bs:List UInt8):∀acc:List UInt8,(bs.map λb=>(b.toNat:Int)).foldl (λr n=>r.push (UInt8.ofNat n.toNat)) (S acc)=S (acc++bs):=by
 induction bs with
 |nil=>intro acc;simp
 |cons b r ih=>
  intro acc;have hb:UInt8.ofNat ((b.toNat:Int)).toNat=b:=by simp
  have hp:(S acc).push b=S (acc++[b]):=by show ByteArray.mk ((Array.mk acc).push b)=_;simp
  simp only[gI,zZ,hb,hp,ih];simp
def apt{P:Program}{w:World}{p:Option Addr}{n c:Nat}{bs:List UInt8}(h:s_ (λa v=>w.cell? a=some v) p n bs):
  (Conv.bytesToString (.slice p n c)).run P w=.ok (.string (S bs)) w:=by
 obtain⟨hl,hp⟩:=h;cases p with
 |none=>
  have:n=0:=by
   rcases oB n with h|h
   .exact h
   .obtain⟨a,h,_⟩:=hp h;cases h
  subst this;obtain rfl:=pU hl;rfl
 |some a=>
  have hc:∀j v,(bs.map λb=>Value.int .u8 b.toNat)[j]?=some v->w.cell? (a.add j)=some v:=by
   intro j v hj;rcases oB n with h0|h0
   .subst h0;obtain rfl:=pU hl;simp at hj
   .obtain⟨a',ha,hc⟩:=hp h0
    obtain rfl:=bU ha;simp only[aJl,Yf]at hj;obtain⟨b,hb,rfl⟩:=hj;exact hc j b hb
  have h1:=run_loadCells_list (P:=P) w a _ hc;rw[lG,hl]at h1;have h2:(bs.map λb=>Value.int .u8 b.toNat)=(bs.map λb=>(b.toNat:Int)).map (Value.int .u8):=by simp
  rw[h2]at h1;rw[run_bytesToString w a n c _ h1];have:=foldl_push bs [];simp only[Gb]at this;exact gJ (λs=>Result.ok (Value.string s) w) this
def abJ{P:Program}{src dst:TypeId}{x:Value}{Rd:Addr->Value->Prop}{K:Value->Prop}(h:Ev P src dst x Rd K):
  ∃v,K v/\∀w,CP Rd w->(convert src dst x).run P w=.ok v w:=by
 unfold Ev at h;split at h
 .split at h
  .rename_i hs hd
   refine⟨_,h,λw _=>?_⟩;simp[convert,run_underlying hs,run_underlying hd,Conv.intToInt]
  .exact h.elim
 .split at h
  .rename_i hs hd
   refine⟨_,h,λw _=>?_⟩;simp[convert,run_underlying hs,run_underlying hd]
  .exact h.elim
 .split at h
  .rename_i hs hd
   rw[gK]at h;cases hu:Iy P _ with
   |false=>exact(h.2 hu).elim
   |true=>obtain⟨bs,hb,hk⟩:=h.1 hu;refine⟨_,hk,λw hw=>?_⟩;rw[run_convert_bytes_string w src dst _ _ _ _ hs (acT hu) hd];exact apt ⟨hb.1,λh0=>by obtain⟨a,ha,hc⟩:=hb.2 h0;exact⟨a,ha,λj b hj=>hw _ _ (hc j b hj)⟩⟩
  .exact h.elim
 .exact h.elim
def UP(s:List UInt8)(lo hi:Option Value)(K:Value->Prop):Prop:=match lo,hi with
 |none,none=>K (.string (S s))
 |some (.int _ i),none=>0<=i/\i<=s.length/\K (.string (S (s.drop i.toNat)))
 |none,some (.int _ j)=>0<=j/\j<=s.length/\K (.string (S (s.take j.toNat)))
 |some (.int _ i),some (.int _ j)=>0<=i/\i<=j/\j<=s.length/\K (.string (S ((s.drop i.toNat).take (j.toNat-i.toNat))))
 |_,_=>False
def MZ(p:Option Addr)(n c sz:Nat)(lo hi:Option Value)(K:Value->Prop):Prop:=match lo,hi with
 |none,none=>K (.slice p n c)
 |some (.int _ i),none=>0<=i/\i<=n/\K (.slice (if c=i.toNat then p else p.map (·.add (i.toNat*sz))) (n-i.toNat) (c-i.toNat))
 |none,some (.int _ j)=>0<=j/\j<=c/\K (.slice p j.toNat c)
 |some (.int _ i),some (.int _ j)=>0<=i/\i<=j/\j<=c/\K (.slice (if c=i.toNat then p else p.map (·.add (i.toNat*sz))) (j.toNat-i.toNat) (c-i.toNat))
 |_,_=>False
def Ct(P:Program)(t:TypeId)(x:Value)(lo hi:Option Value)(K:Value->Prop):Prop:=match x with
 |.string ⟨⟨s⟩⟩=>match P.underlying t with
  |some .string=>UP s lo hi K
  |_=>False
 |.slice p n c=>match P.underlying t with
  |some (.slice e)=>an (iI P e) (MZ p n c (ei P e) lo hi K) False
  |_=>False
 |.pointer p=>match P.underlying t with
  |some (.array n e)=>an (iI P e) (aB p λa=>MZ (some a) n n (ei P e) lo hi K) False
  |_=>False
 |_=>False
def Ca{P:Program}{k:IntKind}{i:Int}{y:Nat}{code:BoundsCode}(h0:0<=i)(h1:i<=y)(w:World):(Instr.sliceBound (.int k i) y code).run P w=.ok i.toNat w:=run_sliceBound w k i y code h0 h1
def Z9(P:Program)(b:Bool)(n c:Nat)(w:World):(Instr.sliceBounds b n c none none none).run P w=.ok (0,n,c) w:=by simp[Instr.sliceBounds]
def abK{P:Program}{k:IntKind}{i:Int}(b:Bool){n:Nat}(c:Nat)(h0:0<=i)(h1:i<=n)(w:World):(Instr.sliceBounds b n c (some (.int k i)) none none).run P w=.ok (i.toNat,n,c) w:=by simp[Instr.sliceBounds,Ca h0 h1]
def abL{P:Program}{k:IntKind}{j:Int}(b:Bool)(n:Nat){c:Nat}(h0:0<=j)(h1:j<=c)(w:World):(Instr.sliceBounds b n c none (some (.int k j)) none).run P w=.ok (0,j.toNat,c) w:=by simp[Instr.sliceBounds,Ca h0 h1]
def Z_{P:Program}{k k':IntKind}{i j:Int}(b:Bool)(n:Nat){c:Nat}(h0:0<=i)(h1:i<=j)(h2:j<=c)(w:World):(Instr.sliceBounds b n c (some (.int k i)) (some (.int k' j)) none).run P w=.ok (i.toNat,j.toNat,c) w:=by
 have e:((j.toNat:Nat):Int)=j:=Int.toNat_of_nonneg (by omega);have hj:0<=j:=by omega
 simp[Instr.sliceBounds,Ca hj h2,Ca h0 (show i<=((j.toNat:Nat):Int) by omega)]
def asm{P:Program}{t:TypeId}{s:List UInt8}{lo hi:Option Value}{K:Value->Prop}(ht:P.underlying t=some .string)(h:UP s lo hi K):
  ∃v,K v/\∀w,(Instr.sliceAt t (.string (S s)) lo hi none).run P w=.ok v w:=by
 have ex:∀a b,(S s).extract a b=S ((s.drop a).take (b-a)):=λa b=>ByteArray.extract_mk s a b;have fin:∀a b w,(Instr.sliceBounds false s.length s.length lo hi none).run P w=.ok (a,b,s.length) w->(Instr.sliceAt t (.string (S s)) lo hi none).run P w=.ok (.string (S ((s.drop a).take (b-a)))) w:=by intro a b w hb;have hsz:(S s).size=s.length:=rfl;rw[run_sliceAt_string w t _ _ _ _ ht];simp only[Instr.slice,Sem.run_bind,run_underlying ht,Result.andThen_ok,Option.isSome_none,kV,iV,hsz,hb,Sem.run_pure,ex]
 unfold UP at h;split at h
 .refine⟨_,h,λw=>?_⟩
  have:=fin 0 s.length w (Z9 ..);simpa using this
 .refine⟨_,h.2.2,λw=>?_⟩
  have:=fin _ _ w (abK _ _ h.1 h.2.1 w);rw[this];rw[wu (by simp)]
 .refine⟨_,h.2.2,λw=>?_⟩
  have:=fin _ _ w (abL _ _ h.1 h.2.1 w);simpa using this
 .exact⟨_,h.2.2.2,λw=>fin _ _ w (Z_ _ _ h.1 h.2.1 h.2.2.1 w)⟩
 .exact h.elim
def abM{P:Program}{p:Option Addr}{n c sz:Nat}{lo hi:Option Value}{K:Value->Prop}(h:MZ p n c sz lo hi K):
  ∃l j,(∀b w,(Instr.sliceBounds b n c lo hi none).run P w=.ok (l,j,c) w)/\K (.slice (if c=l then p else p.map (·.add (l*sz))) (j-l) (c-l)):=by
 have z:(if c=0 then p else p.map (·.add (0*sz)))=p:=by
  split;·rfl
  .cases p<;>simp[Addr.add]
 unfold MZ at h;split at h
 .exact⟨0,n,λb w=>Z9 ..,by rw[z];exact h⟩
 .exact⟨_,_,λb w=>abK b c h.1 h.2.1 w,h.2.2⟩
 .exact⟨0,_,λb w=>abL b n h.1 h.2.1 w,by rw[z];exact h.2.2⟩
 .exact⟨_,_,λb w=>Z_ b n h.1 h.2.1 h.2.2.1 w,h.2.2.2⟩
 .exact h.elim
def aqo{P:Program}{t:TypeId}{x:Value}{lo hi:Option Value}{K:Value->Prop}(h:Ct P t x lo hi K):
  ∃v,K v/\∀w,(Instr.sliceAt t x lo hi none).run P w=.ok v w:=by
 unfold Ct at h;split at h
 .split at h
  .rename_i ht;exact asm ht h
  .exact h.elim
 .split at h
  .rename_i e ht
   obtain⟨hi',h⟩:=dZ h;obtain⟨l,j,hb,hk⟩:=abM (P:=P) h;refine⟨_,hk,λw=>?_⟩;simp only[Instr.sliceAt,Instr.slice,Sem.run_bind,run_underlying ht,Result.andThen_ok,hb,pZ hi',Sem.run_pure]
  .exact h.elim
 .split at h
  .rename_i n e ht
   obtain⟨hi',h⟩:=dZ h;obtain⟨a,rfl,h⟩:=Ah h;obtain⟨l,j,hb,hk⟩:=abM (P:=P) h;refine⟨_,hk,λw=>?_⟩;simp only[Instr.sliceAt,Instr.sureAddr,Sem.run_bind,run_underlying ht,Result.andThen_ok,hb,pZ hi',Sem.run_pure,Gc];split<;>rfl
  .exact h.elim
 .exact h.elim
def aeJ(P:Program)(t:TypeId)(x i:Value)(K:Value->Prop):Prop:=EK i λ_ i=>match x with
 |.string ⟨⟨s⟩⟩=>match P.underlying t with
  |some .string=>0<=i/\∃b:UInt8,s[i.toNat]?=some b/\K (.int .u8 b.toNat)
  |_=>False
 |.agg ⟨cs⟩=>match P.underlying t with
  |some (.array n e)=>match P.underlying e with
   |some (.struct _)|some (.array _ _)=>False
   |some _=>an (iI P e) (0<=i/\i<n/\El (afA P e) λv=>cs[i.toNat*ei P e]?=some v/\K v) False
   |none=>False
  |_=>False
 |_=>False
def aqp{P:Program}{t:TypeId}{x i:Value}{K:Value->Prop}(h:aeJ P t x i K):∃v,K v/\∀w,(Instr.index t x i).run P w=.ok v w:=by
 obtain⟨k,i,rfl,h'⟩:=LV h;clear h;have h:=h';clear h';split at h
 .rename_i s
  split at h
  .rename_i ht
   obtain⟨h0,b,hb,hk⟩:=h;refine⟨_,hk,λw=>?_⟩;have hl:i.toNat<s.length:=(iU.1 hb).1;have hsz:(S s).size=s.length:=rfl;have hg:(S s)[i.toNat]?=some b:=by rw[ByteArray.getElem?_lt' _ _ (by rw[hsz];exact hl)];rw[gW hl]at hb;exact hb
   simp only[Instr.index,asIntOf,Sem.run_bind,Sem.run_pure,Result.andThen_ok,run_underlying ht,aL h0,hg]
  .exact h.elim
 .rename_i cs
  split at h
  .rename_i n e ht
   split at h
   .exact h.elim
   .exact h.elim
   .rename_i d hs ha hu
    obtain⟨hi,h⟩:=dZ h;obtain⟨h0,h1,h⟩:=h;obtain⟨v,_,hv,hk⟩:=Lx h;refine⟨v,hk,λw=>?_⟩;have h3:=D6 hu w;have h4:A4 d=false:=by
     cases d<;>first|rfl|skip
     .rename_i n e;exact(ha n e rfl).elim
     .rename_i fs;exact(hs fs rfl).elim
    rw[h4]at h3;simp only[Instr.index,asIntOf,Sem.run_bind,Sem.run_pure,Result.andThen_ok,run_underlying ht,aL (And.intro h0 h1),pZ hi,part,h3,kV,iV,BN,hv]
   .exact h.elim
  .exact h.elim
 .exact h.elim
def aaG(P:Program)(t:TypeId)(x i:Value)(K:Value->Prop):Prop:=EK i λ_ i=>match x with
 |.slice p n _=>match P.underlying t with
  |some (.slice e)=>an (iI P e) (0<=i/\i<n/\aB p λa=>K (.pointer (some (a.add (i.toNat*ei P e))))) False
  |_=>False
 |.pointer p=>match P.underlying t with
  |some (.array n e)=>an (iI P e) (aB p λa=>0<=i/\i<n/\K (.pointer (some (a.add (i.toNat*ei P e))))) False
  |_=>False
 |_=>False
def anY{P:Program}{t:TypeId}{x i:Value}{K:Value->Prop}(h:aaG P t x i K):∃v,K v/\∀w,(Instr.indexAt t x i).run P w=.ok v w:=by
 obtain⟨k,i,rfl,h'⟩:=LV h;clear h;have h:=h';clear h';split at h
 .split at h
  .rename_i e ht
   obtain⟨hi,h⟩:=dZ h;obtain⟨h0,h1,h⟩:=h;obtain⟨a,rfl,hk⟩:=Ah h;refine⟨_,hk,λw=>?_⟩;simp only[Instr.indexAt,asIntOf,Sem.run_bind,Sem.run_pure,Result.andThen_ok,run_underlying ht,aL (And.intro h0 h1),pZ hi]
  .exact h.elim
 .split at h
  .rename_i n e ht
   obtain⟨hi,h⟩:=dZ h;obtain⟨a,rfl,h0,h1,hk⟩:=Ah h;refine⟨_,hk,λw=>?_⟩;simp only[Instr.indexAt,Instr.sureAddr,asIntOf,Sem.run_bind,Sem.run_pure,Result.andThen_ok,run_underlying ht,aL (And.intro h0 h1),pZ hi]
  .exact h.elim
 .exact h.elim
def Sl(P:Program)(s:TypeId)(x:Value)(f:Nat)(K:Value->Prop):Prop:=match P.underlying s with
 |some (.struct ⟨fs⟩)=>match fs[f]? with
  |some fl=>an (iI P fl.type) (an (Nat.beq (ei P fl.type) 0) False (yZ x λa=>K (.pointer (some (a.add fl.offset))))) False
  |none=>False
 |_=>False
def anZ{P:Program}{s:TypeId}{x:Value}{f:Nat}{K:Value->Prop}(h:Sl P s x f K):∃v,K v/\∀w,(Instr.fieldAt s x f).run P w=.ok v w:=by
 unfold Sl at h;split at h
 .rename_i fs hu
  split at h
  .rename_i fl hf
   obtain⟨hi,h⟩:=dZ h;rw[gK]at h;cases hz:Nat.beq (ei P fl.type) 0 with
   |true=>exact(h.1 hz).elim
   |false=>
    obtain⟨a,rfl,hk⟩:=Ch (h.2 hz);refine⟨_,hk,λw=>?_⟩;have hne:¬ei P fl.type=0:=λe=>by rw[e]at hz;cases hz
    simp only[Instr.fieldAt,Instr.sureAddr,Sem.run_bind,Sem.run_pure,Result.andThen_ok,run_underlying hu,BN,hf,fieldPlace,pZ hi,aG hne]
  .exact h.elim
 .exact h.elim
def Uj(P:Program)(s:TypeId)(x:Value)(f:Nat)(K:Value->Prop):Prop:=match P.underlying s,x with
 |some (.struct ⟨fs⟩),.agg ⟨cs⟩=>match fs[f]? with
  |some fl=>match P.underlying fl.type with
   |some (.struct _)|some (.array _ _)=>an (iI P fl.type) (K (.agg ⟨(cs.drop fl.offset).take (ei P fl.type)⟩)) False
   |some _=>tw cs fl.offset K
   |none=>False
  |none=>False
 |_,_=>False
def aqq{P:Program}{s:TypeId}{x:Value}{f:Nat}{K:Value->Prop}(h:Uj P s x f K):∃v,K v/\∀w,(Instr.field s x f).run P w=.ok v w:=by
 unfold Uj at h;split at h
 .rename_i fs cs hu
  split at h
  .rename_i fl hf
   have eN:∀d,P.underlying fl.type=some d->A4 d=true->an (iI P fl.type) (K (.agg ⟨(cs.drop fl.offset).take (ei P fl.type)⟩)) False->∃v,K v/\∀w,(Instr.field s (.agg ⟨cs⟩) f).run P w=.ok v w:=by
    intro d hd ha h;obtain⟨hi,h⟩:=dZ h;refine⟨_,h,λw=>?_⟩;have h3:=D6 hd w;rw[ha]at h3;have hx:(Array.mk cs).extract fl.offset (fl.offset+ei P fl.type)=⟨(cs.drop fl.offset).take (ei P fl.type)⟩:=by apply jF;simp[PF]
    simp only[Instr.field,asAgg,part,Sem.run_bind,Sem.run_pure,Result.andThen_ok,run_underlying hu,BN,hf,h3,nu,pZ hi,hx]
   split at h
   .rename_i hd;exact eN _ hd rfl h
   .rename_i hd;exact eN _ hd rfl h
   .rename_i d hs ha hd
    obtain⟨v,hv,hk⟩:=yx h;refine⟨v,hk,λw=>?_⟩;have h3:=D6 hd w;have h4:A4 d=false:=by
     cases d<;>first|rfl|skip
     .rename_i n e;exact(ha n e rfl).elim
     .rename_i fs;exact(hs fs rfl).elim
    rw[h4]at h3;simp only[Instr.field,asAgg,part,Sem.run_bind,Sem.run_pure,Result.andThen_ok,run_underlying hu,BN,hf,h3,kV,iV,hv]
   .exact h.elim
  .exact h.elim
 .exact h.elim
def agp(x:Value)(K:Value->Prop):Prop:=match x with
 |.pointer p=>aB p λa=>K (.pointer (some a))
 |.func (.func f) first cap=>K (.func (.func f) first cap)
 |_=>False
def TG(P:Program)(to:TypeId)(x:Value)(K:Value->Prop):Prop:=match P.underlying to with
 |some (.interface _)=>False
 |some _=>match x with
  |.iface t v=>an (Nat.beq t to) (K v) False
  |_=>False
 |none=>False
def apu{P:Program}{from_ to:TypeId}{x:Value}{K:Value->Prop}(h:TG P to x K):∃v,K v/\∀w,(Instr.typeAssert x from_ to false).run P w=.ok v w:=by
 unfold TG at h;split at h
 .exact h.elim
 .rename_i d hn hu
  split at h
  .rename_i t v
   obtain⟨hb,hk⟩:=dZ h;obtain rfl:=oz hb;refine⟨v,hk,λw=>?_⟩;simp only[Instr.typeAssert,Sem.run_bind,run_underlying hu,Result.andThen_ok];cases d<;>first|(simp;done)|(rename_i ms;exact(hn ms rfl).elim)
  .exact h.elim
 .exact h.elim
def acU(x:Value)(i:Nat)(K:Value->Prop):Prop:=match x with
 |.tuple ⟨vs⟩=>tw vs i K
 |_=>False
def aeK(P:Program)(t:TypeId)(x:Value)(K:Value->Prop):Prop:=match P.underlying t with
 |some (.interface _)=>False
 |some _=>K (.iface t x)
 |none=>False
def afB(c a b:Value)(K:Value->Prop):Prop:=match c with
 |.bool c=>an c (K a) (K b)
 |_=>False
def S8(P:Program)(b:Builtin)(ts:List TypeId)(vs:List Value)(K:Value->Prop):Prop:=match b,ts,vs with
 |.len,[t],[.string ⟨⟨s⟩⟩]=>match P.underlying t with
  |some .string=>K (.int .i64 s.length)
  |_=>False
 |.len,[t],[.slice _ n _]=>match P.underlying t with
  |some (.slice _)=>K (.int .i64 n)
  |_=>False
 |.cap,[t],[.slice _ _ c]=>match P.underlying t with
  |some (.slice _)=>K (.int .i64 c)
  |_=>False
 |.unsafeSliceData,_,[.slice p _ c]=>(p=none\/c≠0)/\K (.pointer p)
 |.max,_,[.int k x,.int _ y]=>K (.int k (if y>x then y else x))
 |.min,_,[.int k x,.int _ y]=>K (.int k (if y<x then y else x))
 |_,_,_=>False
def aoL{P:Program}{b:Builtin}{ts:List TypeId}{t:TypeId}{cs:Array Bool}{vs:List Value}{K:Value->Prop}(h:S8 P b ts vs K):
  ∃v,K v/\∀w,(builtin b ⟨ts⟩ t cs ⟨vs⟩).run P w=.ok (.value v) w:=by
 unfold S8 at h;split at h
 .split at h
  .rename_i hu
   refine⟨_,h,λw=>?_⟩;have hl:=λw s=>run_len_string (P:=P) w _ t (S s) hu;simp only[builtin,Sem.run_bind,hl,Result.andThen_ok,Sem.run_pure];rfl
  .exact h.elim
 .split at h
  .rename_i hu
   refine⟨_,h,λw=>?_⟩;simp[builtin,Builtin.len_,run_underlying hu,goInt]
  .exact h.elim
 .split at h
  .rename_i hu
   refine⟨_,h,λw=>?_⟩;simp[builtin,Builtin.cap_,run_underlying hu,goInt]
  .exact h.elim
 .rename_i p n c
  obtain⟨h0,h⟩:=h;refine⟨_,h,λw=>?_⟩;have e:(Builtin.unsafeSliceData_ ⟨ts⟩ t #[.slice p n c]).run P w=.ok (.pointer p) w:=by
   cases p with
   |none=>exact Lib.run_unsafeSliceData_nil w _ _ _ _
   |some a=>exact Lib.run_unsafeSliceData_row w _ _ _ _ _ (by simpa using h0)
  simp only[builtin,Sem.run_bind,e,Result.andThen_ok,Sem.run_pure]
 .refine⟨_,h,λw=>?_⟩
  simp[builtin,Builtin.max_,Builtin.max2]
 .refine⟨_,h,λw=>?_⟩
  simp[builtin,Builtin.min_,Builtin.min2]
 .exact h.elim
def cellsOf:Value->List Value
 |.agg ⟨cs⟩=>cs
 |v=>[v]
def wL(v:Value):v.cells=⟨cellsOf v⟩:=by cases v<;>rfl
def zeroOf(P:Program)(t:TypeId):List Value:=match P.info? t with
 |some i=>match i.zero with
  |some z=>cellsOf z
  |none=>[]
 |none=>[]
def As(P:Program)(t:TypeId):Bool:=match P.info? t with
 |some i=>match i.zero with
  |some _=>true
  |none=>false
 |none=>false
def aaa{P:Program}{t:TypeId}(h:As P t=true):∃i z,P.info? t=some i/\i.zero=some z/\cellsOf z=zeroOf P t:=by
 unfold As at h;unfold zeroOf;cases hi:P.info? t with
 |none=>simp[hi]at h
 |some i=>
  cases hz:i.zero with
  |none=>simp[hi,hz]at h
  |some z=>exact⟨i,z,rfl,hz,by simp[hz]⟩
def LW{P:Program}{t:TypeId}(h:As P t=true):∃z,cellsOf z=zeroOf P t/\∀w,(zeroValue t).run P w=.ok z w:=by obtain⟨i,z,hi,hz,hc⟩:=aaa h;exact⟨z,hc,λw=>by simp[zeroValue,typeInfo,hi,hz]⟩
def TH(l:Fr):Nat->List Value->(Fr->Prop)->Prop
 |_,[],K=>K l
 |n,v::r,K=>xh l n v λl'=>TH l' (n+1) r K
def zi(l:Fr):Nat->List Value->Fr
 |_,[]=>l
 |n,v::r=>zi (l.set n v) (n+1) r
def apv{vs:List Value}:∀{l:Fr} {n:Nat} {K:Fr->Prop},TH l n vs K->K (zi l n vs):=by
 induction vs with
 |nil=>intro l n K h;exact h
 |cons v r ih=>intro l n K h;exact ih (Cg h)
def atT(vs:List Value):∀(l:Fr) (off k:Nat),((vs.zipIdx k).foldl (λ(cs:Array Value) (x:Value×Nat)=>cs.setIfInBounds (off+x.2) x.1) ⟨l⟩)=⟨zi l (off+k) vs⟩:=by
 induction vs with
 |nil=>intro l off k;rfl
 |cons v r ih=>intro l off k;simp only[List.zipIdx_cons,zZ,zi,PB];have:=ih (l.set (off+k) v) off (k+1);rwa[<-Gj]at this
def abN(vs:List Value)(l:Fr)(off:Nat):(((Array.mk vs).zipIdx).foldl (λ(cs:Array Value) (x:Value×Nat)=>cs.setIfInBounds (off+x.2) x.1) ⟨l⟩)=⟨zi l off vs⟩:=by
 have h1:(Array.mk vs).zipIdx=⟨vs.zipIdx⟩:=by apply jF;simp
 rw[h1];have:=atT vs l off 0;simpa using this
def Au(P:Program)(t:TypeId):Bool:=Nat.beq (ei P t) 1&&match Ix P t with
 |.leaf _=>true
 |_=>false
def apw{P:Program}{t:TypeId}(h:Au P t=true):ei P t=1:=by unfold Au at h;rw[aHo]at h;exact oz h.1
def CE(place:Nat->Option (Nat×Nat))(lf:Nat->Bool):Fr->List (Nat×Value)->(Fr->Prop)->Prop
 |l,[],K=>K l
 |l,(i,v)::r,K=>match place i with
  |some (off,size)=>an (lf i&&Nat.beq size 1) (an (Nat.ble (off+1) l.length) (an v.oneCell' (xh l off v λl'=>CE place lf l' r K) False) False)
    (an (Nat.beq (cellsOf v).length size&&Nat.ble (off+(cellsOf v).length) l.length) (TH l off (cellsOf v) λl'=>CE place lf l' r K) False)
  |none=>False
def R9{v:Value}(h:v.oneCell'=true):cellsOf v=[v]:=by cases v<;>first|rfl|(simp[Value.oneCell']at h)
def SK{place:Nat->Option (Nat×Nat)}{lf:Nat->Bool}{parts:List (Nat×Value)}:∀{l:Fr} {K:Fr->Prop},CE place lf l parts K->∃l',Instr.fill place ⟨l⟩ parts=some ⟨l'⟩/\K l':=by
 induction parts with
 |nil=>intro l K h;exact⟨l,rfl,h⟩
 |cons x r ih=>
  intro l K h;obtain⟨i,v⟩:=x;simp only[CE]at h;split at h
  .rename_i off size hp
   obtain⟨h1,h2,l',h3,h4⟩:(cellsOf v).length=size/\off+(cellsOf v).length<=l.length/\∃l',Instr.fill place ⟨zi l off (cellsOf v)⟩ r=some ⟨l'⟩/\K l':=by
    rw[gK]at h;cases hs:lf i&&Nat.beq size 1 with
    |true=>obtain⟨hb,h⟩:=dZ (h.1 hs);obtain⟨h1,h⟩:=dZ h;obtain⟨l',h3,h4⟩:=ih (Cg h);rw[R9 h1];rw[aHo]at hs;exact⟨(oz hs.2).symm,PY hb,l',h3,h4⟩
    |false=>obtain⟨hb,h⟩:=dZ (h.2 hs);rw[aHo]at hb;obtain⟨l',h3,h4⟩:=ih (apv h);exact⟨oz hb.1,PY hb.2,l',h3,h4⟩
   refine⟨l',?_,h4⟩;have h5:¬(off+(cellsOf v).length>l.length):=by omega
   simp only[Instr.fill,hp,wL,wB,ne_eq,h1,YJ,Ry,yh];rw[aG (by simpa[h1]using h2)];rw[abN];exact h3
  .exact h.elim
def Mu(l:Fr):List (Nat×Operand)->(List (Nat×Value)->Prop)->Prop
 |[],K=>K []
 |(i,x)::r,K=>cR l x λv=>Mu l r λvs=>K ((i,v)::vs)
def aaH{l:Fr}{ds:List Deferred}{xs:List (Nat×Operand)}{K:List (Nat×Value)->Prop}(h:Mu l xs K):K (xs.map λx=>(x.1,(act l ds).eval x.2)):=by
 induction xs generalizing K with
 |nil=>exact h
 |cons x r ih=>exact ih (cM (ds:=ds) h)
def Hg(P:Program):List Field->Bool
 |[]=>true
 |f::r=>iI P f.type&&Hg P r
def placeOf(P:Program)(fs:List Field)(i:Nat):Option (Nat×Nat):=match fs[i]? with
 |some f=>some (f.offset,ei P f.type)
 |none=>none
def Uk(P:Program)(t:TypeId)(parts:List (Nat×Value))(K:Value->Prop):Prop:=match P.underlying t with
 |some (.struct ⟨fs⟩)=>an (Hg P fs&&As P t) (CE (placeOf P fs) (λi=>match fs[i]? with|some f=>Au P f.type|none=>false) (zeroOf P t) parts λl=>K (.agg ⟨l⟩)) False
 |some (.array _ e)=>an (iI P e&&As P t) (CE (λi=>some (i*ei P e,ei P e)) (λ_=>Au P e) (zeroOf P t) parts λl=>K (.agg ⟨l⟩)) False
 |_=>False
def aqr{P:Program}{fs:List Field}(h:Hg P fs=true)(w:World):
  ((Array.mk fs).mapM λf=>(do pure (f.offset,<-sizeOf f.type):Sem (Nat×Nat))).run P w=.ok ⟨fs.map λf=>(f.offset,ei P f.type)⟩ w:=by
 rw[J8];simp only[Sem.run_map];have:∀fs:List Field,Hg P fs=true->(fs.mapM λf=>(do pure (f.offset,<-sizeOf f.type):Sem (Nat×Nat))).run P w=.ok (fs.map λf=>(f.offset,ei P f.type)) w:=by
  intro fs
  induction fs with
  |nil=>intro _;rfl
  |cons f r ih=>intro h;simp only[Hg,aHo]at h;simp only[yf,Sem.run_bind,pZ h.1,Result.andThen_ok,Sem.run_pure,ih h.2,gI]
 rw[this fs h];rfl
def aqs{P:Program}{t:TypeId}{parts:List (Nat×Value)}{K:Value->Prop}(h:Uk P t parts K):∃v,K v/\∀w,(Instr.build t ⟨parts⟩).run P w=.ok v w:=by
 unfold Uk at h;split at h
 .rename_i fs hu
  obtain⟨hb,h⟩:=dZ h;rw[aHo]at hb;obtain⟨z,hz,hr⟩:=LW hb.2;obtain⟨l',h1,h2⟩:=SK h;refine⟨_,h2,λw=>?_⟩;have hpl:(λx:Nat=>(Array.mk (fs.map λf=>(f.offset,ei P f.type)))[x]?)=placeOf P fs:=by funext i;simp only[placeOf,BN,aJl];cases fs[i]?<;>rfl
  simp only[Instr.build,Sem.run_bind,hr,Result.andThen_ok,run_underlying hu,aqr hb.1,hpl,wL,hz,h1,Sem.run_pure]
 .rename_i n e hu
  obtain⟨hb,h⟩:=dZ h;rw[aHo]at hb;obtain⟨z,hz,hr⟩:=LW hb.2;obtain⟨l',h1,h2⟩:=SK h;refine⟨_,h2,λw=>?_⟩;simp only[Instr.build,Sem.run_bind,hr,Result.andThen_ok,run_underlying hu,pZ hb.1,wL,hz,h1,Sem.run_pure]
 .exact h.elim
def vE(P:Program)(l:Fr)(o:Oper)(Rd:Addr->Value->Prop)(K:Value->Prop):Prop:=match o.op with
 |.move x|.assign x=>cR l x K
 |.pick c a b=>cR l c λc=>cR l a λa=>cR l b λb=>afB c a b K
 |.load t x=>cR l x λx=>yZ x λa=>MX P t a Rd K
 |.nilCheck x=>cR l x λx=>agp x K
 |.binOp op t x (.const .nilIface) _=>cR l x λv=>an (Em P t) (Eu op v λb=>K (.bool b)) False
 |.binOp op t x y _=>cR l x λx=>cR l y λy=>Nt P op t x y K
 |.unOp op _ x=>cR l x λx=>Wb op x K
 |.convert s d x=>cR l x λx=>Ev P s d x Rd K
 |.slice t x lo hi none=>cR l x λx=>(match lo with
  |none=>match hi with
   |none=>Ct P t x none none K
   |some hi=>cR l hi λhi=>Ct P t x none (some hi) K
  |some lo=>cR l lo λlo=>match hi with
   |none=>Ct P t x (some lo) none K
   |some hi=>cR l hi λhi=>Ct P t x (some lo) (some hi) K)
 |.fieldAddr s x f=>cR l x λx=>Sl P s x f K
 |.field s x f=>cR l x λx=>Uj P s x f K
 |.indexAddr t x i=>cR l x λx=>cR l i λi=>aaG P t x i K
 |.index t x i=>cR l x λx=>cR l i λi=>aeJ P t x i K
 |.extract x i=>cR l x λx=>acU x i K
 |.typeAssert x _ to false=>cR l x λx=>TG P to x K
 |.makeInterface t x=>cR l x λx=>aeK P t x K
 |.makeFunc fn ⟨first⟩ ⟨cap⟩=>xj l first λfirst=>xj l cap λcap=>K (.func fn ⟨first⟩ ⟨cap⟩)
 |.call ⟨.builtin b,⟨xs⟩,⟨ts⟩⟩=>xj l xs λvs=>S8 P b ts vs K
 |.build t ⟨parts⟩=>Mu l parts λps=>Uk P t ps K
 |_=>False
def aH_{s:Sem Value}{P:Program}{v:Value}{w:World}(h:s.run P w=.ok v w):(do pure (Next.value (<-s)):Sem Next).run P w=.ok (.value v) w:=by simp only[Sem.run_bind,h,Result.andThen_ok,Sem.run_pure]
def Eg{P:Program}{l:Fr}{ds:List Deferred}{o:Oper}{Rd:Addr->Value->Prop}{K:Value->Prop}(h:vE P l o Rd K):
  ∃v,K v/\∀w,CP Rd w->(execOp (act l ds).eval o).run P w=.ok (.value v) w:=by
 unfold vE at h;split at h
 .rename_i x ho
  exact⟨_,cM (ds:=ds) h,λw _=>by simp only[execOp,ho,Sem.run_pure]⟩
 .rename_i x ho
  exact⟨_,cM (ds:=ds) h,λw _=>by simp only[execOp,ho,Sem.run_pure]⟩
 .rename_i c a b ho
  have h:=cM (ds:=ds) (cM (ds:=ds) (cM (ds:=ds) h));unfold afB at h;split at h
  .rename_i x c hc
   rw[gK]at h;cases c
   .exact⟨_,h.2 rfl,λw _=>by simp only[execOp,ho,hc,asBool,Sem.run_bind,Sem.run_pure,Result.andThen_ok,kV,iV]⟩
   .exact⟨_,h.1 rfl,λw _=>by simp only[execOp,ho,hc,asBool,Sem.run_bind,Sem.run_pure,Result.andThen_ok,nu]⟩
  .exact h.elim
 .rename_i t x ho
  obtain⟨a,ha,h⟩:=Ch (cM (ds:=ds) h);obtain⟨v,hk,hr⟩:=abH h;refine⟨v,hk,λw hw=>?_⟩;simp only[execOp,ho,ha];exact aH_ (by simp only[Instr.loadAt,Instr.sureAddr,Sem.run_bind,Sem.run_pure,Result.andThen_ok,hr w hw])
 .rename_i x ho
  have h:=cM (ds:=ds) h;unfold agp at h;split at h
  .rename_i y p hx
   obtain⟨a,rfl,hk⟩:=Ah h;exact⟨_,hk,λw _=>by simp only[execOp,ho,hx,Sem.run_pure]⟩
  .rename_i y f first cap hx
   exact⟨_,h,λw _=>by simp only[execOp,ho,hx,Sem.run_pure]⟩
  .exact h.elim
 .rename_i op t x yt ho
  obtain⟨hb,h⟩:=dZ (cM (ds:=ds) h);obtain⟨b,hk,hr⟩:=asj hb h;refine⟨_,hk,λw _=>?_⟩;simp only[execOp,ho];refine aH_ ?_;have hg:(eqGuard op t x (.const .nilIface) ((act l ds).eval x) ((act l ds).eval (.const .nilIface))).run P w=.ok () w:=by
   show(eqGuard op t x (.const .nilIface) ((act l ds).eval x) .nilIface).run P w=.ok () w;unfold eqGuard;cases op<;>first|rfl|skip
   all_goals(generalize(act l ds).eval x=vx;cases vx<;>simp)
  have hr':(binOp op t ((act l ds).eval x) ((act l ds).eval (.const .nilIface))).run P w=.ok (.bool b) w:=hr w;simp only[Sem.run_bind,hg,Sem.run_pure,Result.andThen_ok,hr']
 .rename_i op t x y yt _ ho
  obtain⟨v,hk,hr⟩:=atS (P:=P) (cM (ds:=ds) (cM (ds:=ds) h));refine⟨v,hk,λw _=>?_⟩;simp only[execOp,ho];refine aH_ ?_;have hg:(eqGuard op t x y ((act l ds).eval x) ((act l ds).eval y)).run P w=.ok () w:=by
   have h:=cM (ds:=ds) (cM (ds:=ds) h);unfold Nt at h;split at h
   .rename_i e
    rw[e];generalize(act l ds).eval x=vx;unfold eqGuard;cases op<;>first|rfl|(cases vx<;>simp)
   .unfold MY at h
    split at h<;>rename_i e1 e2<;>first
     |(rw[e1];cases op<;>rfl)
     |exact h.elim
     |(rw[e1,e2];exact run_eqGuard_agg w op t x y _ _ (Z8 h).1)
  simp only[Sem.run_bind,hg,Sem.run_pure,Result.andThen_ok,hr w]
 .rename_i op t x ho
  obtain⟨v,hk,hr⟩:=avA (P:=P) (cM (ds:=ds) h);exact⟨v,hk,λw _=>by simp only[execOp,ho];exact aH_ (hr w)⟩
 .rename_i s d x ho
  obtain⟨v,hk,hr⟩:=abJ (P:=P) (cM (ds:=ds) h);exact⟨v,hk,λw hw=>by simp only[execOp,ho];exact aH_ (hr w hw)⟩
 .rename_i t x lo hi ho
  have h:=cM (ds:=ds) h;have h':Ct P t ((act l ds).eval x) (lo.map (act l ds).eval) (hi.map (act l ds).eval) K:=by
   cases lo with
   |none=>cases hi with
    |none=>exact h
    |some hi=>exact cM (ds:=ds) h
   |some lo=>
    have h:=cM (ds:=ds) h;cases hi with
    |none=>exact h
    |some hi=>exact cM (ds:=ds) h
  obtain⟨v,hk,hr⟩:=aqo h';exact⟨v,hk,λw _=>by simp only[execOp,ho,Q4];exact aH_ (hr w)⟩
 .rename_i s x f ho
  obtain⟨v,hk,hr⟩:=anZ (cM (ds:=ds) h);exact⟨v,hk,λw _=>by simp only[execOp,ho];exact aH_ (hr w)⟩
 .rename_i s x f ho
  obtain⟨v,hk,hr⟩:=aqq (cM (ds:=ds) h);exact⟨v,hk,λw _=>by simp only[execOp,ho];exact aH_ (hr w)⟩
 .rename_i t x i ho
  obtain⟨v,hk,hr⟩:=anY (cM (ds:=ds) (cM (ds:=ds) h));exact⟨v,hk,λw _=>by simp only[execOp,ho];exact aH_ (hr w)⟩
 .rename_i t x i ho
  obtain⟨v,hk,hr⟩:=aqp (cM (ds:=ds) (cM (ds:=ds) h));exact⟨v,hk,λw _=>by simp only[execOp,ho];exact aH_ (hr w)⟩
 .rename_i x i ho
  have h:=cM (ds:=ds) h;unfold acU at h;split at h
  .rename_i y vs hx
   obtain⟨v,hv,hk⟩:=yx h;exact⟨v,hk,λw _=>by simp only[execOp,ho,hx];exact aH_ (by simp only[Instr.extract,BN,hv,Sem.run_pure])⟩
  .exact h.elim
 .rename_i x tf to ho
  obtain⟨v,hk,hr⟩:=apu (P:=P) (from_:=tf) (cM (ds:=ds) h);exact⟨v,hk,λw _=>by simp only[execOp,ho];exact aH_ (hr w)⟩
 .rename_i t x ho
  have h:=cM (ds:=ds) h;unfold aeK at h;split at h
  .exact h.elim
  .rename_i d hn hu
   refine⟨_,h,λw _=>?_⟩;simp only[execOp,ho];refine aH_ ?_;simp only[Instr.makeInterface,Sem.run_bind,run_underlying hu,Result.andThen_ok];cases d<;>first|rfl|(rename_i ms;exact(hn ms rfl).elim)
  .exact h.elim
 .rename_i fn first cap ho
  have h:=An (ds:=ds) (An (ds:=ds) h);refine⟨_,h,λw _=>?_⟩;simp only[execOp,ho];refine aH_ ?_;simp only[Instr.makeFunc,Sem.run_pure,yc]
 .rename_i b xs ts ho
  have h:=An (ds:=ds) h;obtain⟨v,hk,hr⟩:=aoL (P:=P) (t:=o.type) (cs:=(Array.mk xs).map λ|.const _=>true|_=>false) h;refine⟨v,hk,λw _=>?_⟩;simp only[execOp,ho,resolve,invoke,Sem.run_bind,Sem.run_pure,Result.andThen_ok,yc]at hr⊢;exact hr w
 .rename_i t parts ho
  obtain⟨v,hk,hr⟩:=aqs (aaH (ds:=ds) h);refine⟨v,hk,λw _=>?_⟩;simp only[execOp,ho];refine aH_ ?_;have:=hr w;simpa[yc]using this
 .exact h.elim
abbrev KW:=Value->World->Prop
def Wr(w:World)(a:Addr):Prop:=(w.cell? a).isSome=true/\w.frozen? a=false
def cJ(a:Addr)(K:World->Prop):Nat->List Value->World->Prop
 |_,[],w=>K w
 |i,v::r,w=>an v.oneCell' (Wr w (a.add i)/\cJ a K (i+1) r (w.setCell (a.add i) v)) False
def asn{P:Program}{w:World}{a:Addr}{v:Value}(hv:v.oneCell'=true)(h:Wr w a):(store a v).run P w=.ok () (w.setCell a v):=by
 rw[run_store P w a v _ hv];obtain⟨h1,h2⟩:=h;cases hc:w.cell? a with
 |none=>simp[hc]at h1
 |some u=>simp[h2]
def aab{P:Program}{a:Addr}{K:World->Prop}{vs:List Value}:∀{i:Nat} {w:World},cJ a K i vs w->∃w',(storeCells a vs i).run P w=.ok () w'/\K w':=by
 induction vs with
 |nil=>intro i w h;exact⟨w,rfl,h⟩
 |cons v r ih=>intro i w h;obtain⟨hv,h1,h2⟩:=dZ h;obtain⟨w',h3,h4⟩:=ih h2;exact⟨w',by simp only[storeCells,Sem.run_bind,asn hv h1,Result.andThen_ok,h3],h4⟩
def HE(P:Program)(t:TypeId)(a:Addr)(vs:List Value)(w:World)(K:World->Prop):Prop:=
 an (iI P t) (an (Nat.ble (ei P t) 16)
  (an (Nat.beq vs.length (ei P t)) (cJ a K 0 vs w) False)
  (vs.length=ei P t/\(∀v∈vs,v.oneCell'=true)/\∃(g o:Nat) (cur:List Value) (e:TypeId),a=⟨g,o,none⟩/\Row w g e ⟨cur⟩/\o+vs.length<=cur.length/\
   K (w.setRow g ⟨cur.take o++(vs++cur.drop (o+vs.length))⟩))) False
def aqt{P:Program}{t:TypeId}{a:Addr}{v:Value}{w:World}{K:World->Prop}(h:HE P t a (cellsOf v) w K):∃w',(storeVar t a v).run P w=.ok () w'/\K w':=by
 obtain⟨hi,h⟩:=dZ h;have fin:∀w',(cellsOf v).length=ei P t->(storeCells a (cellsOf v)).run P w=.ok () w'->(storeVar t a v).run P w=.ok () w':=by intro w' hl hr;simp only[storeVar,Sem.run_bind,pZ hi,Result.andThen_ok,wL,wB,hl,ne_eq,YJ,iV,hr]
 rw[gK]at h;cases hb:Nat.ble (ei P t) 16 with
 |true=>obtain⟨hl,h⟩:=dZ (h.1 hb);obtain⟨w',h1,h2⟩:=aab (P:=P) h;exact⟨w',fin w' (oz hl) h1,h2⟩
 |false=>obtain⟨hl,h1,g,o,cur,e,rfl,hg,hf,hk⟩:=h.2 hb;refine⟨_,fin _ hl ?_,hk⟩;have:=Li P g o e (cellsOf v) 0 ⟨cur⟩ w hg (by simpa using hf) h1;rw[this];simp[aIi]
def Ul(P:Program)(t:TypeId)(v:Value):List Value:=bif Au P t then[v]else cellsOf v
def aqu{P:Program}{t:TypeId}{a:Addr}{v:Value}{w:World}{K:World->Prop}(h:HE P t a (Ul P t v) w K):HE P t a (cellsOf v) w K:=by
 unfold Ul at h;cases hs:Au P t with
 |false=>rw[hs]at h;exact h
 |true=>
  rw[hs]at h;have h':HE P t a [v] w K:=h
  suffices hv:v.oneCell'=true by rw[R9 hv];exact h'
  obtain⟨_,h⟩:=dZ h';rw[gK]at h;have hb:Nat.ble (ei P t) 16=true:=by rw[apw hs];rfl
  obtain⟨_,h⟩:=dZ (h.1 hb);exact(dZ h).1
def tA(zs:List Value):Nat->List Value
 |0=>[]
 |n+1=>zs++tA zs n
def aac(zs:List Value)(n:Nat):(tA zs n).length=n*zs.length:=by
 induction n with
 |zero=>simp[tA]
 |succ n ih=>simp[tA,ih,aJ4,Nat.add_comm]
def atU(zs:List Value)(n:Nat):∀i,i<n*zs.length->(tA zs n)[i]?=zs[i%zs.length]?:=by
 induction n with
 |zero=>intro i hi;simp at hi
 |succ n ih=>
  intro i hi;simp only[tA]
  by_cases h:i<zs.length
  .rw[x_ h,YO h]
  .have hz:zs.length<=i:=KB h
   rw[aJY hz,ih _ (by rw[aJ4]at hi;omega)];congr 1;have:i=(i-zs.length)+zs.length:=by omega
   rw[this,Nat.add_mod_right];simp
def Zv(zs:List Value)(n:Nat):madeCells ⟨zs⟩ (n*zs.length)=⟨tA zs n⟩:=by
 apply jF;apply aIh;intro i
 by_cases h:i<n*zs.length
 .rw[atU zs n i h]
  have hz:0<zs.length:=by
   rcases oB zs.length with h0|h0
   .rw[h0]at h;simp at h
   .exact h0
  have hm:i%zs.length<zs.length:=DY _ hz;simp[madeCells,h,hm]
 .have h1:n*zs.length<=i:=KB h
  rw[t_ (l:=(madeCells ⟨zs⟩ (n*zs.length)).toList) (by simpa[madeCells]using h1),t_ (l:=tA zs n) (by rw[aac];exact h1)]
def afC(P:Program)(t:TypeId)(n c:Value)(w:World)(K:KW):Prop:=EK n λ_ n=>EK c λ_ c=>match P.underlying t with
 |some (.slice e)=>match P.info? e with
  |some i=>match i.zero with
   |some z=>0<=n/\n<=c/\(i.bytes:Int)*c<=281474976710656/\c<=9223372036854775807/\
     K (.slice (some ⟨w.heap.size,0,none⟩) n.toNat c.toNat) (w.alloc (.cells (madeCells ⟨cellsOf z⟩ (c.toNat*i.size)) e))
   |none=>False
  |none=>False
 |_=>False
def aso{P:Program}{t:TypeId}{n c:Value}{w:World}{K:KW}(h:afC P t n c w K):∃v w',(Instr.makeSlice t n c).run P w=.ok v w'/\K v w':=by
 obtain⟨kn,n,rfl,h1⟩:=LV h;obtain⟨kc,c,rfl,h2⟩:=LV h1;clear h h1;have h:=h2;clear h2;split at h
 .rename_i e hu
  split at h
  .rename_i i hi
   split at h
   .rename_i z hz
    obtain⟨h0,h1,h2,h3,hk⟩:=h;have:=run_make (P:=P) w t e i z hu hi hz kn kc n c h0 h1 h2 h3;rw[wL]at this;exact⟨_,_,this,hk⟩
   .exact h.elim
  .exact h.elim
 .exact h.elim
def adR:∀(vs l:Fr) (n:Nat),n+vs.length<=l.length->zi l n vs=l.take n++(vs++l.drop (n+vs.length))
 |[],l,n,_=>by simp[zi]
 |v::r,l,n,h=>by
  have h':n+1+r.length<=l.length:=by simp at h;omega
  rw[zi,adR r (l.set n v) (n+1) (by simpa using h')];apply aIh;intro j;simp only[Kj,aJ2,DG,aHl,zY,DN,bf,Qs]
  grind
def S9(sz:Nat)(z:Fr)(len:Nat)(parts:List (Nat×Value))(K:Fr->Prop):Prop:=match len,parts with
 |1,[(0,.agg ⟨cs⟩)]=>an (Nat.beq cs.length sz) (K cs) False
 |_,_=>CE (λi=>some (i*sz,sz)) (λ_=>false) z parts K
def aoM{sz len:Nat}{z:Fr}{parts:List (Nat×Value)}{K:Fr->Prop}(hz:z.length=len*sz)(h:S9 sz z len parts K):∃l',Instr.fill (λi=>some (i*sz,sz)) ⟨z⟩ parts=some ⟨l'⟩/\K l':=by
 unfold S9 at h;split at h
 .rename_i cs
  obtain⟨hb,h⟩:=dZ h;have hb:=oz hb;refine⟨cs,?_,h⟩;simp only[Instr.fill,wL,cellsOf,wB,Gl];rw[aG (by simp;omega),abN,adR _ _ _ (by omega)];have:z.length=cs.length:=by omega
  simp[<-this]
 .exact SK h
def Sm(P:Program)(t:TypeId)(len:Nat)(parts:List (Nat×Value))(w:World)(K:KW):Prop:=match P.underlying t with
 |some (.slice e)=>an (iI P e&&As P e&&Nat.beq (zeroOf P e).length (ei P e)&& !Nat.beq (len*ei P e) 0&&Nat.ble (len*ei P e) 16777216)
   (S9 (ei P e) (tA (zeroOf P e) len) len parts λl=>K (.slice (some ⟨w.heap.size,0,none⟩) len len) (w.alloc (.cells ⟨l⟩ e))) False
 |_=>False
def an0{P:Program}{t:TypeId}{len:Nat}{parts:List (Nat×Value)}{w:World}{K:KW}(h:Sm P t len parts w K):
  ∃v w',(Instr.buildSlice t len ⟨parts⟩).run P w=.ok v w'/\K v w':=by
 unfold Sm at h;split at h
 .rename_i e hu
  obtain⟨hb,h⟩:=dZ h;simp only[aHo,F6]at hb;obtain⟨⟨⟨⟨h1,h2⟩,h3⟩,h4⟩,h5⟩:=hb;obtain⟨z,hz,hr⟩:=LW h2;have h3:=oz h3;obtain⟨l',h6,h7⟩:=aoM (by rw[aac,h3]) h;have h4:¬len*ei P e=0:=λhe=>by rw[he]at h4;cases h4
  have h5:=PY h5;refine⟨_,_,?_,h7⟩;have hcells:(Array.range (len*ei P e)).map (λi=>(Array.mk (zeroOf P e))[i%(Array.mk (zeroOf P e)).size]!)=⟨tA (zeroOf P e) len⟩:=by rw[<-Zv,h3];rfl
  have h5':¬(2^24<len*ei P e):=by omega
  simp only[Instr.buildSlice,Sem.run_bind,run_underlying hu,Result.andThen_ok,pZ h1,gt_iff_lt,aG h5',aG h4,hr,wL,hz,hcells,h6,Sem.run_pure,newRow];rfl
 .exact h.elim
def Sn(P:Program)(t:TypeId)(w:World)(K:KW):Prop:=match P.underlying t with
 |some (.slice e)=>an (iI P e) (K (.slice (some ⟨w.heap.size,0,none⟩) 0 0) (w.alloc (.cells ⟨[]⟩ e))) False
 |_=>False
def R_(P:Program)(t:TypeId)(len:Nat)(parts:List (Nat×Value))(w:World)(K:KW):Prop:=
 an (Nat.beq len 0&&parts.isEmpty) (Sn P t w K) (Sm P t len parts w K)
def anF{P:Program}{t:TypeId}{len:Nat}{parts:List (Nat×Value)}{w:World}{K:KW}(h:R_ P t len parts w K):
  ∃v w',(Instr.buildSlice t len ⟨parts⟩).run P w=.ok v w'/\K v w':=by
 unfold R_ at h;cases hb:(Nat.beq len 0&&parts.isEmpty)with
 |false=>rw[hb]at h;exact an0 h
 |true=>
  rw[hb]at h;simp only[aHo,QO]at hb;obtain⟨h0,rfl⟩:=hb;obtain rfl:=oz h0;have h:Sn P t w K:=h;unfold Sn at h;split at h
  .rename_i e hu
   obtain⟨h1,h⟩:=dZ h;refine⟨_,_,?_,h⟩;have hz:(Array.range 0).map (λi=>(#[]:Array Value)[i%(#[]:Array Value).size]!)=#[]:=by simp
   simp only[Instr.buildSlice,Sem.run_bind,run_underlying hu,Result.andThen_ok,pZ h1,Gl,gt_iff_lt,Nat.not_lt_zero,nu,iV,Sem.run_pure,newRow,hz];rfl
  .exact h.elim
def oO(p p':Option Addr)(n' c c' s:Nat):Prop:=(p'=p/\c'=c)\/((Value.slice p' n' c').ownBlock=some s/\0<n')
def oO.own{p p':Option Addr}{n n' c c' s:Nat}(h:oO p p' n' c c' s):(Value.slice p' n' c').ownBlock=(Value.slice p n c).ownBlock\/(Value.slice p' n' c').ownBlock=some s:=by
 rcases h with⟨rfl,rfl⟩|⟨h,_⟩
 .exact .inl (by cases p'<;>rfl)
 .exact .inr h
def TI(P:Program)(t u:TypeId)(s x:Value)(w:World)(K:KW):Prop:=match s with
 |.slice p n c=>match P.underlying t with
  |some (.slice e)=>match P.info? e with
   |some i=>an (As P e&&Nat.beq (zeroOf P e).length i.size&& !Nat.beq i.size 0) (match x with
     |.slice q m _=>match P.underlying u with
      |some (.slice _)=>∃xs news:List Value,aS w 0 e i.size (.slice p n c) n xs/\news.length=m*i.size/\(∀u∈news,u.oneCell'=true)/\
        (0<m->∃a,q=some a/\∀j u,news[j]?=some u->w.cell? (a.add j)=some u)/\n+m<=9223372036854775807/\(n+m)*i.bytes<=140737488355328/\
        ∀(p':Option Addr) (c':Nat) (w':World),aS w' 0 e i.size (.slice p' (n+m) c') (n+m) (xs++news)->w.grownBy w' (Value.slice p n c).ownBlock->
         oO p p' (n+m) c c' w.heap.size->K (.slice p' (n+m) c') w'
      |_=>False
     |.string ⟨⟨b⟩⟩=>match P.underlying u with
      |some .string=>an (Nat.beq i.size 1) (∃xs:List Value,aS w 0 e i.size (.slice p n c) n xs/\n+b.length<=9223372036854775807/\(n+b.length)*i.bytes<=140737488355328/\
        ∀(p':Option Addr) (c':Nat) (w':World),aS w' 0 e i.size (.slice p' (n+b.length) c') (n+b.length) (xs++b.map (λb=>Value.int .u8 b.toNat))->w.grownBy w' (Value.slice p n c).ownBlock->
         oO p p' (n+b.length) c c' w.heap.size->K (.slice p' (n+b.length) c') w') False
      |_=>False
     |_=>False) False
   |none=>False
  |_=>False
 |_=>False
def Zg{P:Program}{w:World}{t u ty e:TypeId}{i:TypeInfo}{z:Value}(ht:P.underlying t=some (.slice e)){d:TypeDesc}(hu:P.underlying u=some d)(hd:∀k,d≠.int k)(hi:P.info? e=some i)(hz:i.zero=some z)
  (hzs:z.cells.size=i.size)(hsz:0<i.size){x:Value}{p:Option Addr}{n c m:Nat}{xs news:List Value}(hown:aS w 0 e i.size (.slice p n c) n xs)(hlen:∀w',(Builtin.lenOf x).run P w'=.ok m w')
  (hf:(Builtin.firstCells i.size m x).run P w=.ok ⟨news⟩ w)(hfd:(Builtin.firstCells i.size m x).run P w.drew=.ok ⟨news⟩ w.drew)(hl:news.length=m*i.size)(h1:∀u∈news,u.oneCell'=true)
  (h63:n+m<=9223372036854775807)(hbytes:(n+m)*i.bytes<=140737488355328):
  ∃p' c' w',(Builtin.append_ #[t,u] ty #[.slice p n c,x]).run P w=.ok (.slice p' (n+m) c') w'/\aS w' 0 e i.size (.slice p' (n+m) c') (n+m) (xs++news)/\w.grownBy w' (Value.slice p n c).ownBlock/\
   oO p p' (n+m) c c' w.heap.size:=by
 have hmax:n+m<=maxLen:=by simpa[maxLen]using h63
 have Of:(xs++news).length=(n+m)*i.size:=by rw[cB,hown.1,hl,aJ4]
 have hne:(match d with|.int _=>true|_=>false)=false:=by cases d<;>first|rfl|exact(hd _ rfl).elim
 have grown:∀(old:Nat) (row:Option Nat),
   aS (w.drew.alloc (.cells (xs.toArray++news.toArray++Builtin.zeroCells z.cells (grownCap w (n+m) old e-(n+m))) e)) 0 e i.size
    (.slice (some ⟨w.heap.size,0,none⟩) (n+m) (grownCap w (n+m) old e)) (n+m) (xs++news)/\
   w.grownBy (w.drew.alloc (.cells (xs.toArray++news.toArray++Builtin.zeroCells z.cells (grownCap w (n+m) old e-(n+m))) e)) row:=by
  intro old row;have hge:=grownCap_ge w (n+m) old e;have hcm:grownCap w (n+m) old e<=maxLen:=grownCap_le_maxLen w (n+m) old e hmax;refine⟨⟨Of,.inr ⟨w.heap.size,_,_,rfl,dK _,Row.new w.drew e _,hge,hcm,?_,?_⟩⟩,⟨rfl,rfl,rfl,by simp,λk hk _=>Below.heap_alloc w.drew _ k hk⟩⟩
  .simp only[QB,wB,size_zeroCells,hzs,hown.1,hl,<-aJ4]
   congr 1;omega
  .simp only[Yq,aIi]
   rw[<-aIi,<-Of];exact List.take_left
 have h63':¬(9223372036854775807<((n:Int)+(m:Int))):=by omega
 rcases hown.2 with⟨hv,rfl⟩|⟨g,cap,cur,hv,_,hg,hnc,hcm,hcs,Es⟩<;>(injection hv with hv1 _ Bj;subst hv1;subst Bj)
 .have hx:xs=[]:=pU (by simpa using hown.1)
  subst hx;rcases oB m with rfl|hm
  .have hn:news=[]:=pU (by simpa using hl)
   subst hn;refine⟨none,0,w,?_,by simpa using aS.nil w 0 e i.size,World.grownBy.refl w _,.inl ⟨rfl,rfl⟩⟩;simp[Builtin.append_,run_underlying ht,run_underlying hu,hne,sizeOf,typeInfo,hi,hlen,hf]
  .have hm0:m≠0:=by omega
   have axT:¬(9223372036854775807<(m:Int)):=by omega
   have Vo:¬(281474976710656<Builtin.nextslicecap m 0*i.bytes):=by
    rw[nextslicecap_zero hm];have:m*i.bytes<=140737488355328:=by simpa using hbytes
    omega
   have E6:=grown 0 (Value.ownBlock (.slice none 0 0));simp only[cQ,Gb,Yx]at E6⊢;refine⟨_,_,_,?_,E6.1,E6.2,.inr ⟨rfl,by omega⟩⟩;simp[Builtin.append_,run_underlying ht,run_underlying hu,hne,sizeOf,typeInfo,zeroValue,hi,hz,hlen,hm0,axT,Vo,Question.forced,run_firstCells_none,hfd,newRow,grownCap]
 ·by_cases hroom:n+m<=c
  .have hfit:n*i.size+news.length<=cur.size:=by rw[hl,hcs,<-aJ4];exact Yp _ hroom
   have hst:=Li P g (n*i.size) e news 0 cur w hg (by simpa using hfit) h1;simp only[Gk]at hst;have hsize:(cur.toList.take (n*i.size)++news++cur.toList.drop (n*i.size+news.length)).toArray.size=cur.size:=by simp only[wB,cB,aHl,ig,Kq];omega
   refine⟨some ⟨g,0,none⟩,c,w.setRow g (cur.toList.take (n*i.size)++news++cur.toList.drop (n*i.size+news.length)).toArray,?_,
    ⟨Of,.inr ⟨g,c,_,rfl,dK _,hg.setRow _ hsize,hroom,hcm,by rw[hsize,hcs],?_⟩⟩,⟨rfl,rfl,rfl,by simp,λk _ hk=>setRow_other w g k _ (λe=>hk (by simp[Value.ownBlock,e]))⟩,.inl ⟨rfl,rfl⟩⟩
   .simp[Builtin.append_,run_underlying ht,run_underlying hu,hne,sizeOf,typeInfo,hi,hlen,hroom,hf,Addr.add_lit,hst]
   .rw[Es,<-Of]
    exact List.take_left
  .have E6:=grown c (Value.ownBlock (.slice (some ⟨g,0,none⟩) n c))
   have hfo:=run_firstCells_some (P:=P) w.drew i.size n ⟨g,0,none⟩ n c xs hown.1 (λj u hu=>by
    have:=hown.cells (g:=g) rfl j u hu;have e:(⟨g,0,none⟩:Addr).add j=⟨g,j,none⟩:=by unfold Addr.add;split<;>simp_all
    rw[e];exact this)
   have Vo:¬(281474976710656<Builtin.nextslicecap (n+m) c*i.bytes):=by have:=growslice_fits (need:=n+m) (old:=c) (by omega) hbytes;omega
   refine⟨_,_,_,?_,E6.1,E6.2,.inr ⟨rfl,by omega⟩⟩;simp[Builtin.append_,run_underlying ht,run_underlying hu,hne,sizeOf,typeInfo,zeroValue,hi,hz,hlen,hroom,h63',Vo,Question.forced,hfd,hfo,newRow,grownCap];congr 2;apply jF;simp[aIi]
def apx{P:Program}{t u ty:TypeId}{s x:Value}{w:World}{K:KW}(h:TI P t u s x w K):∃v w',(Builtin.append_ #[t,u] ty #[s,x]).run P w=.ok v w'/\K v w':=by
 unfold TI at h;split at h
 .rename_i p n c
  split at h
  .rename_i e ht
   split at h
   .rename_i i hi
    obtain⟨hb,h⟩:=dZ h;simp only[aHo,F6]at hb;obtain⟨⟨h1,h2⟩,h3⟩:=hb;obtain⟨i',z,hi',hz,hc⟩:=aaa h1;obtain rfl:i'=i:=by rw[hi]at hi';exact(bU hi').symm
    have h2:=oz h2;have h3:0<i'.size:=by
     rcases oB i'.size with h0|h0
     .rw[h0]at h3;cases h3
     .exact h0
    have hzs:z.cells.size=i'.size:=by rw[wL,hc];exact h2
    split at h
    .rename_i q m c2 _
     split at h
     .rename_i e2 hu
      obtain⟨xs,news,hown,hl,hone,hsrc,hm,hby,hk⟩:=h;have Cu:∀w',(∀a,w'.cell? a=w.cell? a)->(Builtin.firstCells i'.size m (.slice q m c2)).run P w'=.ok ⟨news⟩ w':=by
       intro w' hw;rcases oB m with h0|h0
       .subst h0
        obtain rfl:news=[]:=pU (by simpa using hl);cases q with
        |none=>rfl
        |some a=>simp[Builtin.firstCells,loadCells,loadCellsFrom]
       .obtain⟨a',h,hc⟩:=hsrc h0
        subst h;have:=run_firstCells_some (P:=P) w' i'.size m a' m c2 news hl (λj u hu=>(hw _).trans (hc j u hu));simpa using this
      obtain⟨p',c',w',hrun,h5,h6,h8⟩:=Zg (ty:=ty) ht hu (by simp) hi hz hzs h3 hown (x:=.slice q m c2) (m:=m) (news:=news) (λ_=>rfl) (Cu w (λ_=>rfl)) (Cu w.drew (λ_=>rfl)) hl hone hm hby;exact⟨_,_,hrun,hk p' c' w' h5 h6 h8⟩
     .exact h.elim
    .rename_i b _
     split at h
     .rename_i hu
      obtain⟨Wc,xs,hown,hm,hby,hk⟩:=dZ h;have Wc:=oz Wc;have Cu:∀w',(Builtin.firstCells i'.size b.length (.string ⟨⟨b⟩⟩)).run P w'=.ok ⟨b.map λb=>Value.int .u8 b.toNat⟩ w':=by intro w';simp only[Builtin.firstCells,Sem.run_pure];congr 1;apply jF;simp[PF]
      obtain⟨p',c',w',hrun,h5,h6,h8⟩:=Zg (ty:=ty) ht hu (by simp) hi hz hzs h3 hown (x:=.string ⟨⟨b⟩⟩) (m:=b.length) (news:=b.map λb=>Value.int .u8 b.toNat) (λ_=>rfl) (Cu w) (Cu w.drew) (by rw[Wc];simp)
       (by intro u hu;simp only[dY]at hu;obtain⟨_,_,rfl⟩:=hu;rfl) hm hby
      exact⟨_,_,hrun,hk p' c' w' h5 h6 h8⟩
     .exact h.elim
    .exact h.elim
   .exact h.elim
  .exact h.elim
 .exact h.elim
def S_(P:Program)(dst:TypeId)(src:TypeId)(s:List UInt8)(w:World)(K:KW):Prop:=match P.underlying src,P.underlying dst with
 |some _,some (.slice e)=>an (Iy P e) (s.length<=9223372036854775807/\∀(c:Nat) (w':World),aS w' 0 e 1 (.slice (some ⟨w.heap.size,0,none⟩) s.length c) s.length (s.map λb=>Value.int .u8 b.toNat)->w.grownBy w' none->
   K (.slice (some ⟨w.heap.size,0,none⟩) s.length c) w') False
 |_,_=>False
def aoN{P:Program}{src dst:TypeId}{s:List UInt8}{w:World}{K:KW}(h:S_ P dst src s w K):∃v w',(convert src dst (.string ⟨⟨s⟩⟩)).run P w=.ok v w'/\K v w':=by
 unfold S_ at h;split at h
 .rename_i u e hs hd
  obtain⟨he,hlen,hk⟩:=dZ h;have hr:=Lib.run_convert_string_bytes w src dst e ⟨⟨s⟩⟩ hs hd (acT he);refine⟨_,_,hr,hk _ _ ⟨by simp,.inr ⟨w.heap.size,_,_,rfl,dK _,⟨_,Lib.bytesWorld_at_new w e ⟨⟨s⟩⟩,.inr (aV _)⟩,?_,?_,?_,?_⟩⟩ ⟨rfl,rfl,rfl,?_,?_⟩⟩
  .exact grownCap_ge w s.length 0 e
  .exact grownCap_le_maxLen w s.length 0 e (by simpa[maxLen]using hlen)
  .have:=grownCap_ge w s.length 0 e
   simp[Lib.bytesCells,ByteArray.size];omega
  .simp only[Lib.bytesCells,aHp,Yq,Array.toList_map]
   rw[XZ (by simp)];rw[wu (by simp)]
  .rw[Lib.bytesWorld_size];omega
  .intro k hk _
   exact Lib.bytesWorld_at_old w e ⟨⟨s⟩⟩ k hk
 .exact h.elim
def copyV(P:Program)(t:TypeId)(d s:Value)(w:World)(K:KW):Prop:=match d with
 |.slice p dn _=>match P.underlying t with
  |some (.slice e)=>an (iI P e&&Nat.beq (ei P e) 1) (∃cs:List Value,(∀v∈cs,v.oneCell'=true)/\(match s with
    |.slice q sn _=>cs.length=min sn dn/\(0<cs.length->∃a,q=some a/\∀j u,cs[j]?=some u->w.cell? (a.add j)=some u)
    |.string ⟨⟨s⟩⟩=>cs=(s.take (min s.length dn)).map (λb=>Value.int .u8 b.toNat)
    |_=>False)/\
    ((cs.length=0/\K (.int .i64 0) w)\/∃(g o:Nat) (cur:List Value) (e':TypeId),p=some ⟨g,o,none⟩/\Row w g e' ⟨cur⟩/\o+cs.length<=cur.length/\
     K (.int .i64 cs.length) (w.setRow g ⟨cur.take o++(cs++cur.drop (o+cs.length))⟩))) False
  |_=>False
 |_=>False
def asp{P:Program}{t t2 ty:TypeId}{d s:Value}{w:World}{K:KW}(h:copyV P t d s w K):∃v w',(Builtin.copy_ #[t,t2] ty #[d,s]).run P w=.ok v w'/\K v w':=by
 unfold copyV at h;split at h
 .rename_i p dn dc
  split at h
  .rename_i e hu
   obtain⟨hb,cs,hone,hs,hk⟩:=dZ h;simp only[aHo]at hb;have hsz:=oz hb.2;have hlen:∃n,(Builtin.lenOf s).run P w=.ok n w/\cs.length=min n dn:=by
    split at hs
    .exact⟨_,rfl,hs.1⟩
    .rename_i s
     refine⟨s.length,rfl,?_⟩;rw[hs];simp
    .exact hs.elim
   have Cu:(Builtin.firstCells 1 cs.length s).run P w=.ok ⟨cs⟩ w:=by
    split at hs
    .rename_i q sn sc
     cases q with
     |none=>
      have h0:cs.length=0:=by
       rcases oB cs.length with h0|h0
       .exact h0
       .obtain⟨a,ha,_⟩:=hs.2 h0;cases ha
      obtain rfl:=pU h0;rfl
     |some a=>
      have hc:∀j u,cs[j]?=some u->w.cell? (a.add j)=some u:=by
       intro j u hj;have h0:0<cs.length:=by have:=(iU.1 hj).1;omega
       obtain⟨a',ha,hc⟩:=hs.2 h0;obtain rfl:=bU ha;exact hc j u hj
      simp only[Builtin.firstCells,aHp];exact run_loadCells_list (P:=P) w a cs hc
    .rename_i s
     subst hs;simp only[Builtin.firstCells,Sem.run_pure,lG,aHl];congr 1;apply jF;simp[PF,ByteArray.data_extract]
    .exact hs.elim
   obtain⟨n,hn,hcl⟩:=hlen;have hmin:Nat.min n dn=cs.length:=hcl.symm;have pre:∀(r:Result Value),(match p with
     |some a=>((storeCells a cs).run P w).andThen λ_ w'=>.ok (goInt cs.length) w'
     |none=>.ok (goInt cs.length) w)=r->(Builtin.copy_ #[t,t2] ty #[.slice p dn dc,s]).run P w=r:=by
    intro r hr;subst hr;cases p<;>simp[Builtin.copy_,run_underlying hu,hn,hmin,pZ hb.1,hsz,Cu,Result.andThen]
   rcases hk with⟨h0,hk⟩|⟨g,o,cur,e',rfl,hg,hf,hk⟩
   .obtain rfl:=pU h0
    refine⟨_,_,pre _ ?_,hk⟩;cases p<;>rfl
   .refine⟨_,_,pre _ ?_,hk⟩
    have:=Li P g o e' cs 0 ⟨cur⟩ w hg (by simpa using hf) hone;simp only[this,Result.andThen_ok,goInt,Gk,aIi]
  .exact h.elim
 .exact h.elim
def dD(P:Program)(f:FuncId):Bool:=match P.funcs[f]? with
 |some fn=>match fn.body with
  |some _=>!(fn.name== "runtime.NumGoroutine")
  |none=>false
 |none=>false
def Lj{P:Program}{f:FuncId}(h:dD P f=true)(args:Array Value)(w:World):(callFunc f args).run P w=.ok (.enter f args) w:=by
 unfold dD at h;cases hf:P.funcs[f]? with
 |none=>simp[hf]at h
 |some fn=>
  cases hb:fn.body with
  |none=>simp[hf,hb]at h
  |some c=>
   have hn:fn.name≠ "runtime.NumGoroutine" :=by simpa[hf,hb]using h
   simp[callFunc,hf,hb,hn]
def gu(f:Value)(K:FuncId->List Value->List Value->Prop):Prop:=match f with
 |.func (.func g) ⟨first⟩ ⟨cap⟩=>K g first cap
 |_=>False
def Gw{f:Value}{K:FuncId->List Value->List Value->Prop}(h:gu f K):∃g first cap,f=.func (.func g) ⟨first⟩ ⟨cap⟩/\K g first cap:=by
 unfold gu at h;split at h
 .exact⟨_,_,_,rfl,h⟩
 .exact h.elim
def acV{P:Program}{l:Fr}{ds:List Deferred}{o:Oper}{f:Operand}{xs:List Operand}{ts:Array TypeId}(ho:o.op=.call ⟨.value f,⟨xs⟩,ts⟩){g:FuncId}{first cap:List Value}
  (hf:(act l ds).eval f=.func (.func g) ⟨first⟩ ⟨cap⟩)(hc:dD P g=true)(w:World):
  (execOp (act l ds).eval o).run P w=.ok (.enter g ⟨first++(xs.map (act l ds).eval++cap)⟩) w:=by
 simp only[execOp,ho,resolve,hf,Deferred.ofValue,invoke,Sem.run_bind,Sem.run_pure,Result.andThen_ok];rw[Lj hc];congr 2;apply jF;simp
def Um(P:Program)(t:TypeId)(v:Value)(w:World)(K:KW):Prop:=match v with
 |.string ⟨⟨b⟩⟩=>match P.underlying t with
  |some .string=>K (.pointer (some ⟨w.heap.size,0,none⟩)) (w.alloc (.stringIter ⟨⟨b⟩⟩ 0))
  |_=>False
 |_=>False
def afD(a:Addr)(w:World)(K:KW):Prop:=a.off=0/\∃(b:List UInt8) (pos:Nat),w.heap[a.block]?=some (.stringIter ⟨⟨b⟩⟩ pos)/\
 an (decide (pos<b.length)) (K (.tuple #[.bool true,.int .i64 (pos:Int),.int .i32 ((Utf8.decode ⟨⟨b⟩⟩ pos).1:Int)]) (w.iterAt a.block ⟨⟨b⟩⟩ (pos+(Utf8.decode ⟨⟨b⟩⟩ pos).2)))
  (K (.tuple #[.bool false]) w)
def aqv{P:Program}{t:TypeId}{v:Value}{w:World}{K:KW}(h:Um P t v w K):∃u w',(Instr.range t v).run P w=.ok u w'/\K u w':=by
 unfold Um at h;split at h
 .split at h
  .rename_i ht
   refine⟨_,_,?_,h⟩;simp only[Instr.range,Sem.run_bind,run_underlying ht,Result.andThen_ok,Sem.run_pure];rfl
  .exact h.elim
 .exact h.elim
def asq{P:Program}{a:Addr}{w:World}{K:KW}{ty:TypeId}(h:afD a w K):∃u w',(Instr.next (.pointer (some a)) true ty).run P w=.ok u w'/\K u w':=by
 obtain⟨h0,b,pos,hk,h⟩:=h;obtain⟨g,off,x⟩:=a;dsimp only at h0 hk h;subst h0;have any:pos<b.length->(Instr.next (.pointer (some ⟨g,0,x⟩)) true ty).run P w=.ok (.tuple #[.bool true,.int .i64 (pos:Int),.int .i32 ((Utf8.decode ⟨⟨b⟩⟩ pos).1:Int)]) (w.iterAt g ⟨⟨b⟩⟩ (pos+(Utf8.decode ⟨⟨b⟩⟩ pos).2)):=by intro hlt;have hlt':pos<(⟨⟨b⟩⟩:ByteArray).size:=hlt;simp only[Instr.next,getObj,setObj,Sem.run_bind,Sem.run,hk,Result.andThen,hlt',nu];simp[goInt,World.iterAt]
 have over:¬pos<b.length->(Instr.next (.pointer (some ⟨g,0,x⟩)) true ty).run P w=.ok (.tuple #[.bool false]) w:=by intro hlt;have hlt':¬pos<(⟨⟨b⟩⟩:ByteArray).size:=hlt;simp[Instr.next,getObj,Sem.run,hk,hlt']
 by_cases hlt:pos<b.length
 .rw[fe hlt]at h
  exact⟨_,_,any hlt,h⟩
 .rw[eX hlt]at h
  exact⟨_,_,over hlt,h⟩
def afE(w:World)(a:Addr):Prop:=∃e cells,w.shape? a.block=some (e,cells)/\a.off<cells
def afF(P:Program)(u:TypeId)(w:World)(a:Addr):Prop:=∃e cells,w.shape? a.block=some (e,cells)/\liesAt P P.depth e (cells/P.cellsOf e) a.off u 1=true
def Ta(P:Program)(sr d:TypeId)(p:Option Addr)(w:World)(K:KW):Prop:=match P.underlying sr,P.underlying d with
 |some (.pointer t),some .unsafePointer=>an (iI P t&& !Nat.beq (ei P t) 0) (aB p λa=>afE w a/\K (.pointer (some a)) w) False
 |some .unsafePointer,some (.pointer u)=>an (iI P u) (aB p λa=>afF P u w a/\K (.pointer (some a)) w) False
 |_,_=>False
def adS{P:Program}{t:TypeId}(h:iI P t=true):∃j,P.info? t=some j/\ei P t=j.size:=by
 unfold iI at h;unfold ei;cases hj:P.info? t with
 |none=>rw[hj]at h;cases h
 |some j=>exact⟨j,rfl,rfl⟩
def aoO{P:Program}{sr d:TypeId}{p:Option Addr}{w:World}{K:KW}(h:Ta P sr d p w K):∃v,K v w/\(convert sr d (.pointer p)).run P w=.ok v w:=by
 unfold Ta at h;split at h
 .rename_i t hs hd
  obtain⟨hb,h⟩:=dZ h;rw[aHo]at hb;obtain⟨j,hj,hsz⟩:=adS hb.1;obtain⟨a,rfl,⟨e,cells,hsh,ho⟩,hk⟩:=Ah h;refine⟨_,hk,Lib.run_to_unsafe w a hs hd hj ?_ hsh ho⟩;intro h0;rw[hsz,h0]at hb;cases hb.2
 .rename_i u hs hd
  obtain⟨hb,h⟩:=dZ h;obtain⟨j,hj,hsz⟩:=adS hb;obtain⟨a,rfl,⟨e,cells,hsh,ho⟩,hk⟩:=Ah h;exact⟨_,hk,Lib.run_from_unsafe w a hs hd hj hsh ho⟩
 .exact h.elim
def M0(e:TypeId)(p:Option Addr)(n:Int)(w:World)(K:List UInt8->World->Prop):Prop:=
 ∃s:List UInt8,n=s.length/\s.length<=9223372036854775807/\((s=[]/\K s w)\/(s≠[]/\∃g cells,p=some ⟨g,0,none⟩/\w.shape? g=some (e,cells)/\s.length<=cells/\
  (∀j x,s[j]?=some x->w.cell? ((⟨g,0,none⟩:Addr).add j)=some (.int .u8 x.toNat))/\K s (w.freeze ⟨g,0,none⟩ s.length)))
def Sp(P:Program)(pt:TypeId)(x n:Value)(w:World)(K:KW):Prop:=match x,n with
 |.pointer p,.int .i64 n=>match P.underlying pt with
  |some (.pointer e)=>an (Nat.beq (P.cellsOf e) 1) (M0 e p n w λs w'=>K (.string (S s)) w') False
  |_=>False
 |_,_=>False
def an1{P:Program}{pt it ty:TypeId}{x n:Value}{w:World}{K:KW}(h:Sp P pt x n w K):∃v w',(Builtin.unsafeString_ #[pt,it] ty #[x,n]).run P w=.ok v w'/\K v w':=by
 unfold Sp at h;split at h
 .rename_i p n
  split at h
  .rename_i e hu
   obtain⟨hc,s,rfl,h63,⟨rfl,hk⟩|⟨h0,g,cells,rfl,hsh,hn,hcell,hk⟩⟩:=dZ h
   .exact⟨_,w,Lib.run_unsafeString_none w pt it ty p,hk⟩
   .exact⟨_,_,Lib.run_unsafeString_row w pt it ty e hu (oz hc) g cells hsh s h0 hn h63 hcell,hk⟩
  .exact h.elim
 .exact h.elim
def TJ(P:Program)(g:FuncId):Prop:=∃fn,P.funcs[g]?=some fn/\(fn.name== "runtime.NumGoroutine")=false/\fn.body.isNone=true/\Extern.findNext fn=none/\Extern.find fn=some Extern.AbiNoEscape.same
def agq(P:Program)(g:FuncId)(args:List Value)(K:Value->Prop):Prop:=TJ P g/\match args with
 |[v]=>K v
 |_=>False
def avB{P:Program}{l:Fr}{ds:List Deferred}{o:Oper}{f:Operand}{xs:List Operand}{ts:Array TypeId}(ho:o.op=.call ⟨.value f,⟨xs⟩,ts⟩){g:FuncId}{first cap:List Value}
  (hf:(act l ds).eval f=.func (.func g) ⟨first⟩ ⟨cap⟩){K:Value->Prop}(h:agq P g (first++(xs.map (act l ds).eval++cap)) K)(w:World):
  ∃v,(execOp (act l ds).eval o).run P w=.ok (.value v) w/\K v:=by
 obtain⟨⟨fn,h1,h2,h3,h4,h5⟩,hk⟩:=h;split at hk
 .rename_i v hv
  refine⟨v,?_,hk⟩;simp only[execOp,ho,resolve,hf,Deferred.ofValue,invoke,Sem.run_bind,Sem.run_pure,Result.andThen_ok];have e:({toList:=first}:Array Value)++Array.map (act l ds).eval {toList:=xs}++({toList:=cap}:Array Value)=#[v]:=by apply jF;simpa using hv
  rw[e,run_callFunc_extern h1 h2 h3 h4 h5];rfl
 .exact hk.elim
def atV{P:Program}{l:Fr}{ds:List Deferred}{o:Oper}{f:Operand}{xs:List Operand}{ts:Array TypeId}(ho:o.op=.call ⟨.value f,⟨xs⟩,ts⟩){g:FuncId}{first cap:List Value}
  (hf:(act l ds).eval f=.func (.func g) ⟨first⟩ ⟨cap⟩){fn:Func}{e:Array Value->Sem Value}(h1:P.funcs[g]?=some fn)(h2:(fn.name== "runtime.NumGoroutine")=false)(h3:fn.body.isNone=true)(h4:Extern.findNext fn=none)(h5:Extern.find fn=some e){args:Array Value}{v:Value}{w w':World}
  (ha:(Array.mk (first++(xs.map (act l ds).eval++cap)))=args)(hr:(e args).run P w=.ok v w'):(execOp (act l ds).eval o).run P w=.ok (.value v) w':=by
 have e1:(⟨first⟩:Array Value)++Array.map (act l ds).eval ⟨xs⟩++⟨cap⟩=⟨first++(xs.map (act l ds).eval++cap)⟩:=by apply jF;simp
 simp only[execOp,ho,resolve,hf,Deferred.ofValue,invoke,Sem.run_bind,Sem.run_pure,Result.andThen_ok];rw[e1,run_callFunc_extern h1 h2 h3 h4 h5,ha,hr];rfl
def d_(P:Program)(t:TypeId)(m k x:Value)(w:World)(K:World->Prop):Prop:=∃w',(Instr.mapUpdate t m k x).run P w=.ok () w'/\K w'
def AQ(P:Program)(t:TypeId)(m k:Value)(w:World)(K:Value->Bool->Prop):Prop:=∃(v:Value) (ok:Bool),(Instr.lookup t m k true).run P w=.ok (.tuple ⟨[v,.bool ok]⟩) w/\K v ok
def axU(P:Program)(t ty:TypeId)(m k:Value)(w:World)(K:Value->Prop):Prop:=Et P ty λv=>(Instr.lookup t m k false).run P w=.ok v w/\K v
def agr(P:Program)(t u:TypeId)(m k:Value)(w:World)(K:World->Prop):Prop:=∃w',(∀ty,(Builtin.delete_ #[t,u] ty #[m,k]).run P w=.ok (.tuple #[]) w')/\K w'
def Mv(P:Program)(t:TypeId)(x:Value)(w:World)(K:World->Prop):Prop:=∃w',(∀ty,(Builtin.clear_ #[t] ty #[x]).run P w=.ok (.tuple #[]) w')/\K w'
def TK(v:Value)(w:World)(K:Nat->World->Prop):Prop:=∃(r:Nat) (es:Array MapEntry) (clock:Nat),v=.map (some r)/\w.heap[r]?=some (.map es clock)/\K w.heap.size (w.alloc (.mapIter (some r) clock #[] clock))
def Un(P:Program)(a:Addr)(w:World)(A:World->Prop)(B:Value->Value->World->Prop):Prop:=
 (∃w',(∀ty,(Instr.next (.pointer (some a)) false ty).run P w=.ok (.tuple #[.bool false]) w')/\A w')\/
 ∃k x w',(∀ty,(Instr.next (.pointer (some a)) false ty).run P w=.ok (.tuple #[.bool true,k,x]) w')/\B k x w'
def Mw(P:Program)(t:TypeId):Bool:=match P.underlying t with
 |some (.map _ _)=>true
 |_=>false
def aqw{P:Program}{t:TypeId}(h:Mw P t=true):∃k e,P.underlying t=some (.map k e):=by
 unfold Mw at h;split at h
 .exact⟨_,_,by assumption⟩
 .cases h
def adT(P:Program)(t:TypeId):Bool:=match P.underlying t with
 |some (.map _ e)=>match Ix P e with
  |.leaf .raw=>true
  |_=>false
 |_=>false
def M1(d:Option Nat)(i:Nat):List Oper->Option TypeId
 |[]=>none
 |o::r=>match o.op,d with
  |.extract (.tmp t) j,some d=>bif Nat.beq t d&&Nat.beq i j then some o.type else M1 (some d) i r
  |_,d=>M1 d i r
def UQ(P:Program):Option TypeId->(Value->Prop)->Prop
 |some t,K=>Nr (Ix P t) K
 |none,K=>∃v:Value,K v
def abO{P:Program}{x:Option TypeId}{K:Value->Prop}(h:UQ P x K):∃v,K v:=by
 cases x with
 |none=>exact h
 |some t=>exact S7 h
def aeL(P:Program)(a:Addr)(t u:Option TypeId)(w:World)(K:Value->Value->Prop):Prop:=
 UQ P t λk=>UQ P u λx=>(Instr.entry (.pointer (some a))).run P w=.ok (.tuple #[k,x]) w/\K k x
def aqx{P:Program}{a:Addr}{t u:Option TypeId}{w:World}{K:Value->Value->Prop}(h:aeL P a t u w K):∃k x,(Instr.entry (.pointer (some a))).run P w=.ok (.tuple #[k,x]) w/\K k x:=by obtain⟨k,h⟩:=abO h;obtain⟨x,h⟩:=abO h;exact⟨k,x,h⟩
def LX(P:Program)(g:FuncId):Prop:=∃fn,P.funcs[g]?=some fn/\(fn.name== "runtime.NumGoroutine")=false/\fn.body.isNone=true/\Extern.findNext fn=none/\Extern.find fn=some Extern.MapsClone.clone
def afG(P:Program)(g:FuncId)(args:List Value)(w:World)(K:KW):Prop:=match args with
 |[.iface t (.map p)]=>LX P g/\aB p λr=>∃(es:Array MapEntry) (clock:Nat),w.heap[r]?=some (.map es clock)/\K (.iface t (.map (some w.heap.size))) (w.alloc (.map es clock))
 |args=>agq P g args λv=>K v w
def aIG(P:Program)(l:Fr)(o:Oper)(w:World)(K:KW)(E:List PanicEntry->World->Prop):Prop:=match o.op with
 |.alloc e=>an (As P e) (K (.pointer (some ⟨w.heap.size,0,none⟩)) (w.alloc (.cells ⟨zeroOf P e⟩ e))) False
 |.box e x=>cR l x λv=>an (Au P e) (an v.oneCell' (K (.pointer (some ⟨w.heap.size,0,none⟩)) (w.alloc (.cells ⟨[v]⟩ e))) False) (K (.pointer (some ⟨w.heap.size,0,none⟩)) (w.alloc (.cells ⟨cellsOf v⟩ e)))
 |.store t a x=>cR l a λa=>cR l x λv=>yZ a λa=>HE P t a (Ul P t v) w λw'=>K undef w'
 |.makeSlice t n c=>cR l n λn=>cR l c λc=>afC P t n c w K
 |.buildSlice t len ⟨parts⟩=>Mu l parts λps=>R_ P t len ps w K
 |.panic x=>cR l x λv=>match v with
  |.iface t u=>E [{v:=.iface t u,recovered:=false}] w
  |_=>False
 |.makeMap _ none=>K (.map (some w.heap.size)) (w.alloc (.map #[] 0))
 |.mapUpdate t m k x=>cR l m λm=>cR l k λk=>cR l x λx=>d_ P t m k x w λw'=>K undef w'
 |.insert t m k x=>cR l m λm=>cR l k λk=>cR l x λx=>d_ P t m k x w λw'=>K undef w'
 |.lookup t x i true=>cR l x λx=>cR l i λi=>an (adT P t) (AQ P t x i w λv ok=>K (.tuple ⟨[v,.bool ok]⟩) w) (Et P o.type λv=>(Instr.lookup t x i true).run P w=.ok v w/\K v w)
 |.lookup t x i false=>cR l x λx=>cR l i λi=>axU P t o.type x i w λv=>K v w
 |.call ⟨.builtin .append,⟨xs⟩,⟨ts⟩⟩=>match ts,xs with
  |[t,u],[s,x]=>cR l s λs=>cR l x λx=>TI P t u s x w K
  |_,_=>False
 |.call ⟨.builtin .delete,⟨xs⟩,⟨ts⟩⟩=>match ts,xs with
  |[t,u],[m,k]=>cR l m λm=>cR l k λk=>agr P t u m k w λw'=>K (.tuple ⟨[]⟩) w'
  |_,_=>False
 |.call ⟨.builtin .clear,⟨xs⟩,⟨ts⟩⟩=>match ts,xs with
  |[t],[x]=>cR l x λx=>Mv P t x w λw'=>K (.tuple ⟨[]⟩) w'
  |_,_=>False
 |.call ⟨.builtin .copy,⟨xs⟩,⟨ts⟩⟩=>match ts,xs with
  |[t,_],[d,s]=>cR l d λd=>cR l s λs=>copyV P t d s w K
  |_,_=>False
 |.call ⟨.builtin .unsafeString,⟨xs⟩,⟨ts⟩⟩=>match ts,xs with
  |[pt,_],[x,n]=>cR l x λx=>cR l n λn=>Sp P pt x n w K
  |_,_=>False
 |.call ⟨.value f0,⟨xs⟩,_⟩=>cR l f0 λf=>gu f λg first cap=>xj l xs λvs=>an (dD P g)
   (Calls P g ⟨first++(vs++cap)⟩ w λe w'=>(Et P o.type λv=>e=.returned v/\K v w')\/∃c,e=.panicked c/\E c w') (match f0 with
    |.func _=>afG P g (first++(vs++cap)) w K
    |_=>False)
 |.convert sr d x=>cR l x λv=>match v with
  |.string ⟨⟨b⟩⟩=>match P.underlying d with
   |some (.slice _)=>S_ P d sr b w K
   |_=>Ev P sr d (.string ⟨⟨b⟩⟩) (λa v=>w.cell? a=some v) λv=>K v w
  |.pointer p=>Ta P sr d p w K
  |v=>Ev P sr d v (λa v=>w.cell? a=some v) λv=>K v w
 |.range t x=>cR l x λv=>an (Mw P t) (TK v w λb w'=>K (.pointer (some ⟨b,0,none⟩)) w') (Um P t v w K)
 |.next it true=>cR l it λv=>yZ v λa=>afD a w K
 |.next it false=>cR l it λv=>yZ v λa=>Un P a w (λw'=>K (.tuple ⟨[.bool false]⟩) w') λk x w'=>K (.tuple ⟨[.bool true,k,x]⟩) w'
 |_=>vE P l o (λa v=>w.cell? a=some v) λv=>K v w
def o_{s:Sem Value}{P:Program}{v:Value}{w w':World}(h:s.run P w=.ok v w'):(do pure (Next.value (<-s)):Sem Next).run P w=.ok (.value v) w':=by simp only[Sem.run_bind,h,Result.andThen_ok,Sem.run_pure]
def LM{P:Program}{l:Fr}{ds:List Deferred}{o:Oper}{w:World}{K:KW}{E:List PanicEntry->World->Prop}{next:Act->World->Prop}{Q:Exit->Act->World->Prop}
  (h:aIG P l o w K E)(hK:∀v w',K v w'->next ((act l ds).put o.dst v) w')(hE:∀c w',E c w'->Q (.panic c) (act l ds) w'):o.wp P (act l ds) w next Q:=by
 have value:∀v w',(execOp (act l ds).eval o).run P w=.ok (.value v) w'->K v w'->o.wp P (act l ds) w next Q:=by intro v w' hr hk;unfold Oper.wp;rw[hr];exact hK v w' hk
 unfold aIG at h;split at h
 .rename_i e ho
  obtain⟨hz,h⟩:=dZ h;obtain⟨z,hz1,hr⟩:=LW hz;refine value _ _ ?_ h;simp only[execOp,ho];refine o_ ?_;simp only[Instr.alloc,Sem.run_bind,hr,Result.andThen_ok,newVar,newRow,wL,hz1,Sem.run_pure];rfl
 .rename_i e x ho
  have h:=cM (ds:=ds) h;have h:K (.pointer (some ⟨w.heap.size,0,none⟩)) (w.alloc (.cells ⟨cellsOf ((act l ds).eval x)⟩ e)):=by
   rw[gK]at h;cases hs:Au P e with
   |false=>exact h.2 hs
   |true=>obtain⟨hv,h⟩:=dZ (h.1 hs);rw[R9 hv];exact h
  refine value _ _ ?_ h;simp only[execOp,ho];refine o_ ?_;simp only[Instr.box,Sem.run_bind,Result.andThen_ok,newVar,newRow,wL,Sem.run_pure];rfl
 .rename_i t a x ho
  have h:=cM (ds:=ds) (cM (ds:=ds) h);obtain⟨a',ha,h⟩:=Ch h;obtain⟨w',hr,hk⟩:=aqt (aqu h);unfold Oper.wp;simp only[execOp,ho,Instr.storeAt,ha,Instr.sureAddr,Sem.run_bind,Sem.run_pure,Result.andThen_ok,hr];exact hK _ _ hk
 .rename_i t n c ho
  obtain⟨v,w',hr,hk⟩:=aso (cM (ds:=ds) (cM (ds:=ds) h));refine value v w' ?_ hk;simp only[execOp,ho];simp only[Sem.run_bind,hr,Result.andThen_ok,Sem.run_pure]
 .rename_i t len parts ho
  obtain⟨v,w',hr,hk⟩:=anF (aaH (ds:=ds) h);refine value v w' ?_ hk;simp only[execOp,ho,yc];simp only[Sem.run_bind];have hr':(Instr.buildSlice t len (List.map (λx:Nat×Operand=>(x.1,(act l ds).eval x.2)) parts).toArray).run P w=.ok v w':=hr;rw[hr'];rfl
 .rename_i x ho
  have h:=cM (ds:=ds) h;split at h
  .rename_i y t u hx
   unfold Oper.wp;simp only[execOp,ho,hx,Instr.panic,goPanic,Sem.run_bind,Sem.run_halt,Result.andThen_halt];exact hE _ _ h
  .exact h.elim
 .rename_i t ho
  refine value _ _ ?_ h;simp only[execOp,ho];refine o_ ?_;simp only[Instr.makeMap,Q4,newObj,Sem.run_bind,Sem.run_pure,Result.andThen_ok];rfl
 .rename_i t m k x ho
  obtain⟨w',hr,hk⟩:=cM (ds:=ds) (cM (ds:=ds) (cM (ds:=ds) h));unfold Oper.wp;simp only[execOp,ho,Sem.run_bind,Sem.run_pure,Result.andThen_ok,hr];exact hK _ _ hk
 .rename_i t m k x ho
  obtain⟨w',hr,hk⟩:=cM (ds:=ds) (cM (ds:=ds) (cM (ds:=ds) h));unfold Oper.wp;simp only[execOp,ho,Sem.run_bind,Sem.run_pure,Result.andThen_ok,hr];exact hK _ _ hk
 .rename_i t x i ho
  have h:=cM (ds:=ds) (cM (ds:=ds) h);rw[gK]at h;cases hb:adT P t with
  |true=>obtain⟨v,ok,hr,hk⟩:=h.1 hb;refine value _ w ?_ hk;simp only[execOp,ho];exact o_ hr
  |false=>obtain⟨v,hr,hk⟩:=LL (h.2 hb);refine value _ w ?_ hk;simp only[execOp,ho];exact o_ hr
 .rename_i t x i ho
  obtain⟨v,hr,hk⟩:=LL (cM (ds:=ds) (cM (ds:=ds) h));refine value _ w ?_ hk;simp only[execOp,ho];exact o_ hr
 .rename_i xs ts ho
  split at h
  .rename_i t u s x
   obtain⟨v,w',hr,hk⟩:=apx (ty:=o.type) (cM (ds:=ds) (cM (ds:=ds) h));refine value v w' ?_ hk;simp only[execOp,ho,resolve,invoke,builtin,Sem.run_bind,Sem.run_pure,Result.andThen_ok,yc,gI,rK,hr]
  .exact h.elim
 .rename_i xs ts ho
  split at h
  .rename_i t u m k
   obtain⟨w',hr,hk⟩:=cM (ds:=ds) (cM (ds:=ds) h);refine value _ w' ?_ hk;simp only[execOp,ho,resolve,invoke,builtin,Sem.run_bind,Sem.run_pure,Result.andThen_ok,yc,gI,rK,hr]
  .exact h.elim
 .rename_i xs ts ho
  split at h
  .rename_i t x
   obtain⟨w',hr,hk⟩:=cM (ds:=ds) h;refine value _ w' ?_ hk;simp only[execOp,ho,resolve,invoke,builtin,Sem.run_bind,Sem.run_pure,Result.andThen_ok,yc,gI,rK,hr]
  .exact h.elim
 .rename_i xs ts ho
  split at h
  .rename_i t t' d s
   obtain⟨v,w',hr,hk⟩:=asp (t2:=t') (ty:=o.type) (cM (ds:=ds) (cM (ds:=ds) h));refine value v w' ?_ hk;simp only[execOp,ho,resolve,invoke,builtin,Sem.run_bind,Sem.run_pure,Result.andThen_ok,yc,gI,rK,hr]
  .exact h.elim
 .rename_i xs ts ho
  split at h
  .rename_i pt it x n
   obtain⟨v,w',hr,hk⟩:=an1 (it:=it) (ty:=o.type) (cM (ds:=ds) (cM (ds:=ds) h));refine value v w' ?_ hk;simp only[execOp,ho,resolve,invoke,builtin,Sem.run_bind,Sem.run_pure,Result.andThen_ok,yc,gI,rK,hr]
  .exact h.elim
 .rename_i f xs ts ho
  obtain⟨g,first,cap,hf,h⟩:=Gw (cM (ds:=ds) h);have h:=An (ds:=ds) h;rw[gK]at h;cases hc:dD P g with
  |true=>
   have h:=h.1 hc;unfold Oper.wp;rw[acV ho hf hc];refine Calls.mono h ?_;rintro e w' (h|⟨c,rfl,h⟩)
   .obtain⟨v,rfl,hk⟩:=LL h
    exact hK v w' hk
   .exact hE c w' h
  |false=>
   have h:=h.2 hc;split at h
   .unfold afG at h
    split at h
    .rename_i t p hargs
     obtain⟨⟨fn,h1,h2,h3,h4,h5⟩,h⟩:=h;obtain⟨r,rfl,es,clock,hb,hk⟩:=Ah h;refine value _ _ ?_ hk;have e:(#[]:Array Value)=⟨[]⟩:=rfl;have awN:(Array.mk (first++(xs.map (act l ds).eval++cap)))=#[.iface t (.map (some r))]:=by rw[hargs]
     have hcl:(Extern.MapsClone.clone #[.iface t (.map (some r))]).run P w=.ok (.iface t (.map (some w.heap.size))) (w.alloc (.map es clock)):=by
      have e:Extern.MapsClone.clone #[.iface t (.map (some r))]=(getObj r>>=λo=>match o with
       |.map entries clock=>(newObj (.map entries clock)>>=λn=>pure (.iface t (.map (some n))))
       |_=>stuck "maps.clone: a map expected"):=rfl
      rw[e];simp[MapKept.run_getObj_map hb,Result.andThen,go_sem]
     exact atV ho hf h1 h2 h3 h4 h5 awN hcl
    .obtain⟨v,hr,hk⟩:=avB ho hf h w
     exact value v w hr hk
   .exact h.elim
 .rename_i sr d x ho
  have h:=cM (ds:=ds) h;have quiet:Ev P sr d ((act l ds).eval x) (λa v=>w.cell? a=some v) (λv=>K v w)->o.wp P (act l ds) w next Q:=by intro h;obtain⟨v,hk,hr⟩:=abJ (P:=P) h;exact value v w (by simp only[execOp,ho];exact o_ (hr w λa u h=>h)) hk
  split at h
  .rename_i b hx
   split at h
   .obtain⟨v,w',hr,hk⟩:=aoN h
    refine value v w' ?_ hk;simp only[execOp,ho,hx];exact o_ hr
   .exact quiet (by rw[hx];exact h)
  .rename_i p hx
   obtain⟨v,hk,hr⟩:=aoO h;refine value v w ?_ hk;simp only[execOp,ho,hx];exact o_ hr
  .exact quiet h
 .rename_i t x ho
  have h:=cM (ds:=ds) h;rw[gK]at h;cases hm:Mw P t with
  |true=>obtain⟨k,e,hu⟩:=aqw hm;obtain⟨r,es,clock,hx,hb,hk⟩:=h.1 hm;refine value _ _ ?_ hk;simp only[execOp,ho,hx];exact o_ (run_range_map w t k e r es clock hu hb)
  |false=>obtain⟨v,w',hr,hk⟩:=aqv (h.2 hm);refine value v w' ?_ hk;simp only[execOp,ho];exact o_ hr
 .rename_i it ho
  have h:=cM (ds:=ds) h;obtain⟨a,ha,h⟩:=Ch h;obtain⟨v,w',hr,hk⟩:=asq (ty:=o.type) h;refine value v w' ?_ hk;simp only[execOp,ho,ha];exact o_ hr
 .rename_i it ho
  have h:=cM (ds:=ds) h;obtain⟨a,ha,h⟩:=Ch h;rcases h with⟨w',hr,hk⟩|⟨k,x,w',hr,hk⟩
  .refine value _ w' ?_ hk
   simp only[execOp,ho,ha];exact o_ (hr _)
  .refine value _ w' ?_ hk
   simp only[execOp,ho,ha];exact o_ (hr _)
 .obtain⟨v,hk,hr⟩:=Eg (ds:=ds) h
  exact value v w (hr w λa u h=>h) hk
def Nu(P:Program)(r:List Oper)(l:Fr)(o:Oper)(w:World)(K:KW)(E:List PanicEntry->World->Prop):Prop:=match o.op with
 |.entry it=>cR l it λv=>yZ v λa=>aeL P a (M1 o.dst 0 r) (M1 o.dst 1 r) w λk x=>K (.tuple ⟨[k,x]⟩) w
 |_=>aIG P l o w K E
def Sq{P:Program}{r:List Oper}{l:Fr}{ds:List Deferred}{o:Oper}{w:World}{K:KW}{E:List PanicEntry->World->Prop}{next:Act->World->Prop}{Q:Exit->Act->World->Prop}
  (h:Nu P r l o w K E)(hK:∀v w',K v w'->next ((act l ds).put o.dst v) w')(hE:∀c w',E c w'->Q (.panic c) (act l ds) w'):o.wp P (act l ds) w next Q:=by
 unfold Nu at h;split at h
 .rename_i it ho
  have h:=cM (ds:=ds) h;obtain⟨a,ha,h⟩:=Ch h;obtain⟨k,x,hr,hk⟩:=aqx h;have hx:(execOp (act l ds).eval o).run P w=.ok (.value (.tuple #[k,x])) w:=by simp only[execOp,ho,ha];exact o_ hr
  unfold Oper.wp;rw[hx];exact hK _ _ hk
 .exact LM h hK hE
def c7(w:World)(C:World->Prop):Prop:=C w
def dL(w:World)(e:TypeId)(sz bytes:Nat)(p:Option Addr)(n c:Nat)(q:Option Addr)(m:Nat)(K:Option Addr->Nat->World->Prop):Prop:=
 ∃xs news:List Value,aS w 0 e sz (.slice p n c) n xs/\news.length=m*sz/\(∀u∈news,u.oneCell'=true)/\
  (0<m->∃a,q=some a/\∀j u,news[j]?=some u->w.cell? (a.add j)=some u)/\n+m<=9223372036854775807/\(n+m)*bytes<=140737488355328/\
  ∀(p':Option Addr) (c':Nat) (w':World),aS w' 0 e sz (.slice p' (n+m) c') (n+m) (xs++news)->w.grownBy w' (Value.slice p n c).ownBlock->
   oO p p' (n+m) c c' w.heap.size->K p' c' w'
def ags(w:World)(e:TypeId)(sz bytes:Nat)(p:Option Addr)(n c:Nat)(b:List UInt8)(K:Option Addr->Nat->World->Prop):Prop:=
 ∃xs:List Value,aS w 0 e sz (.slice p n c) n xs/\n+b.length<=9223372036854775807/\(n+b.length)*bytes<=140737488355328/\
  ∀(p':Option Addr) (c':Nat) (w':World),aS w' 0 e sz (.slice p' (n+b.length) c') (n+b.length) (xs++b.map (λb=>Value.int .u8 b.toNat))->w.grownBy w' (Value.slice p n c).ownBlock->
   oO p p' (n+b.length) c c' w.heap.size->K p' c' w'
def cu(ws:List Nat)(l l':Fr):Prop:=l'.length=l.length/\∀t,t∉ws->l'[t]?=l[t]?
def cu.refl(ws:List Nat)(l:Fr):cu ws l l:=⟨rfl,λ_ _=>rfl⟩
def cu.trans{ws vs us:List Nat}{a b c:Fr}(h:cu ws a b)(k:cu vs b c)(hw:∀t∈ws,t∈us)(hv:∀t∈vs,t∈us):cu us a c:=
 ⟨k.1.trans h.1,λt ht=>(k.2 t λe=>ht (hv t e)).trans (h.2 t λe=>ht (hw t e))⟩
def cu.mono{ws us:List Nat}{a b:Fr}(h:cu ws a b)(hw:∀t∈ws,t∈us):cu us a b:=⟨h.1,λt ht=>h.2 t λe=>ht (hw t e)⟩
def cu.put(l:Fr)(d:Option Nat)(v:Value):cu d.toList l (put l d v):=by
 cases d with
 |none=>exact cu.refl _ _
 |some d=>refine⟨by simp[Vc.put],λt ht=>?_⟩;have:d≠t:=λe=>ht (by simp[e]);simp[Vc.put,rJ this]
def e9(ops:List Oper):List Nat:=ops.flatMap λo=>o.dst.toList
def yC(ops:List Oper)(l:Fr)(g:Option (Nat×Bool))(A B:Fr->Prop):Prop:=match g with
 |none=>A l
 |some (j,want)=>match ops[j]? with
  |some o=>match o.dst with
   |some d=>tw l d λv=>match v with
    |.bool b=>an b (xh l d (.bool true) λl'=>an want (A l') (B l')) (xh l d (.bool false) λl'=>an want (B l') (A l'))
    |.tuple _=>B l
    |_=>False
   |none=>False
  |none=>False
def GX{l:Fr}{d:Nat}{v:Value}(h:l[d]?=some v):l.set d v=l:=by
 apply aIh;intro i
 by_cases hi:d=i
 .subst hi
  have hd:=(iU.1 h).1;rw[sW hd,h]
 .rw[rJ hi]
def yo{ops:List Oper}{l:Fr}{ds:List Deferred}{o:Oper}{A B:Fr->Prop}(h:yC ops l o.guard A B):
  (Region.wanted o (yielded ⟨ops⟩ (act l ds).tmps)=true/\A l)\/(Region.wanted o (yielded ⟨ops⟩ (act l ds).tmps)=false/\B l):=by
 unfold yC at h;split at h
 .rename_i hg
  exact .inl ⟨by simp[Region.wanted,hg],h⟩
 .rename_i j want hg
  split at h
  .rename_i oj hj
   split at h
   .rename_i d hd
    obtain⟨v,hv,h⟩:=yx h;split at h
    .rename_i b
     have hy:yielded ⟨ops⟩ (act l ds).tmps j=some b:=by simp[yielded,hj,hd,act,hv]
     rw[gK]at h;cases b with
     |true=>
      have h2:=Cg (h.1 rfl);rw[GX hv]at h2;rw[gK]at h2;cases want with
      |true=>exact .inl ⟨by simp[Region.wanted,hg,hy],h2.1 rfl⟩
      |false=>exact .inr ⟨by simp[Region.wanted,hg,hy],h2.2 rfl⟩
     |false=>
      have h2:=Cg (h.2 rfl);rw[GX hv]at h2;rw[gK]at h2;cases want with
      |true=>exact .inr ⟨by simp[Region.wanted,hg,hy],h2.1 rfl⟩
      |false=>exact .inl ⟨by simp[Region.wanted,hg,hy],h2.2 rfl⟩
    .have hy:yielded ⟨ops⟩ (act l ds).tmps j=none:=by
      simp[yielded,hj,hd,act,hv]
     exact .inr ⟨by simp[Region.wanted,hg,hy],h⟩
    .exact h.elim
   .exact h.elim
  .exact h.elim
def aI9(P:Program)(ops:List Oper)(K:Fr->World->Prop)(E:List PanicEntry->World->Prop):List Oper->Fr->World->Prop
 |[],l,w=>K l w
 |o::r,l,w=>yC ops l o.guard (λl=>Nu P r l o w (λv w'=>qe l o.dst v λl'=>aI9 P ops K E r l' w') E) (λl=>qe l o.dst undef λl'=>aI9 P ops K E r l' w)
def aad{P:Program}{ops:List Oper}{ds:List Deferred}{K:Fr->World->Prop}{E:List PanicEntry->World->Prop}{Q:Exit->Act->World->Prop}
  :∀{rest:List Oper} {l:Fr} {w:World},(∀l' c w',cu (e9 rest) l l'->E c w'->Q (.panic c) (act l' ds) w')->aI9 P ops K E rest l w->
   (∀l' w',cu (e9 rest) l l'->K l' w'->Q .normal (act l' ds) w')->wpList P ⟨ops⟩ Q rest (act l ds) w:=by
 intro rest
 induction rest with
 |nil=>intro l w hE h hK;exact hK l w (cu.refl _ _) h
 |cons o r ih=>
  intro l w hE h hK;have next:∀v w',aI9 P ops K E r (put l o.dst v) w'->wpList P ⟨ops⟩ Q r ((act l ds).put o.dst v) w':=by
   intro v w' h;rw[wV];have step:∀{l':Fr},cu (e9 r) (put l o.dst v) l'->cu (e9 (o::r)) l l':=by intro l' ha;exact(cu.put l o.dst v).trans ha (λt ht=>by simp only[e9,pW,kW];exact .inl ht) (λt ht=>by simp only[e9,pW,kW];exact .inr ht)
   refine ih (λl' c w' ha he=>hE l' c w' (step ha) he) h λl' w' ha hk=>hK l' w' ?_ hk;exact(cu.put l o.dst v).trans ha (λt ht=>by simp only[e9,pW,kW];exact .inl ht) (λt ht=>by simp only[e9,pW,kW];exact .inr ht)
  unfold wpList;rcases yo (ds:=ds) h with⟨hw,h⟩|⟨hw,h⟩
  .rw[aL hw]
   exact .inl (Sq h (λv w' hk=>next v w' (kX hk)) (λc w' he=>hE l c w' (cu.refl _ _) he))
  .rw[aG (by simp[hw])]
   exact next undef w (kX h)
def qOp(P:Program)(Rd:Addr->Value->Prop)(Cl:FuncId->List Value->Value->Prop)(l:Fr)(o:Oper)(K:Value->Prop):Prop:=match o.op with
 |.call ⟨.value f,⟨xs⟩,_⟩=>cR l f λf=>gu f λg first cap=>xj l xs λvs=>an (dD P g) (Et P o.type λv=>Cl g (first++(vs++cap)) v/\K v) False
 |_=>vE P l o Rd K
def adU{P:Program}{Rd:Addr->Value->Prop}{Cl:FuncId->List Value->Value->Prop}{l:Fr}{ds:List Deferred}{o:Oper}{K:Value->Prop}(h:qOp P Rd Cl l o K):
  ∃v,K v/\((∀w,CP Rd w->(execOp (act l ds).eval o).run P w=.ok (.value v) w)\/∃g args,Cl g args v/\∀w,(execOp (act l ds).eval o).run P w=.ok (.enter g ⟨args⟩) w):=by
 unfold qOp at h;split at h
 .rename_i f xs ts ho
  obtain⟨g,first,cap,hf,h⟩:=Gw (cM (ds:=ds) h);obtain⟨hc,h⟩:=dZ (An (ds:=ds) h);obtain⟨v,h1,h2⟩:=LL h;exact⟨v,h2,.inr ⟨_,_,h1,λw=>acV ho hf hc w⟩⟩
 .obtain⟨v,hk,hr⟩:=Eg (ds:=ds) h
  exact⟨v,hk,.inl hr⟩
def A5(P:Program)(ops:List Oper)(Rd:Addr->Value->Prop)(Cl:FuncId->List Value->Value->Prop)(K:Fr->Prop):List Oper->Fr->Prop
 |[],l=>K l
 |o::r,l=>yC ops l o.guard (λl=>qOp P Rd Cl l o λv=>qe l o.dst v λl'=>A5 P ops Rd Cl K r l') (λl=>qe l o.dst undef λl'=>A5 P ops Rd Cl K r l')
def SL{l l':Fr}{o:Oper}{r:List Oper}{v:Value}(ha:cu (e9 r) (put l o.dst v) l'):cu (e9 (o::r)) l l':=
 (cu.put l o.dst v).trans ha (λt ht=>by simp only[e9,pW,kW];exact .inl ht) (λt ht=>by simp only[e9,pW,kW];exact .inr ht)
def aqy{P:Program}{ops:List Oper}{ds:List Deferred}{Rd:Addr->Value->Prop}{Cl:FuncId->List Value->Value->Prop}{C:World->Prop}{K:Fr->Prop}{Q:Act->Prop}
  (hR:∀w,C w->CP Rd w)(hC:∀g args v,Cl g args v->∀w,C w->Calls P g ⟨args⟩ w λe w'=>e=.returned v/\C w'):
  ∀{rest:List Oper} {l:Fr},A5 P ops Rd Cl K rest l->(∀l',cu (e9 rest) l l'->K l'->Q (act l' ds))->wpQuiet P ⟨ops⟩ C Q rest (act l ds):=by
 intro rest
 induction rest with
 |nil=>intro l h hK;exact hK l (cu.refl _ _) h
 |cons o r ih=>
  intro l h hK;have next:∀v,A5 P ops Rd Cl K r (put l o.dst v)->wpQuiet P ⟨ops⟩ C Q r ((act l ds).put o.dst v):=by intro v h;rw[wV];exact ih h λl' ha hk=>hK l' (SL ha) hk
  unfold wpQuiet;rcases yo (ds:=ds) h with⟨hw,h⟩|⟨hw,h⟩
  .rw[aL hw]
   obtain⟨v,hk,hr⟩:=adU (ds:=ds) h;refine⟨v,λw hw=>?_,next v (kX hk)⟩;unfold Oper.quietAt;rcases hr with hr|⟨g,args,hcl,hr⟩
   .rw[hr w (hR w hw)];exact⟨rfl,rfl⟩
   .rw[hr w];exact⟨rfl,hC g args v hcl w hw⟩
  .rw[aG (by simp[hw])]
   exact next undef (kX h)
def aqz{P:Program}{ops:List Oper}{ds:List Deferred}{Rd:Addr->Value->Prop}{Cl:FuncId->List Value->Value->Prop}{w:World}{K:Fr->Prop}{Q:Act->Prop}
  (hR:CP Rd w)(hC:∀g args v,Cl g args v->Calls P g ⟨args⟩ w λe w'=>e=.returned v/\w'=w):
  ∀{rest:List Oper} {l:Fr},A5 P ops Rd Cl K rest l->(∀l',cu (e9 rest) l l'->K l'->Q (act l' ds))->wpStill P ⟨ops⟩ w Q rest (act l ds):=by
 intro rest
 induction rest with
 |nil=>intro l h hK;exact hK l (cu.refl _ _) h
 |cons o r ih=>
  intro l h hK;have next:∀v,A5 P ops Rd Cl K r (put l o.dst v)->wpStill P ⟨ops⟩ w Q r ((act l ds).put o.dst v):=by intro v h;rw[wV];exact ih h λl' ha hk=>hK l' (SL ha) hk
  unfold wpStill;rcases yo (ds:=ds) h with⟨hw,h⟩|⟨hw,h⟩
  .rw[aL hw]
   obtain⟨v,hk,hr⟩:=adU (ds:=ds) h;unfold Oper.still;rcases hr with hr|⟨g,args,hcl,hr⟩
   .rw[hr w hR];exact⟨rfl,next v (kX hk)⟩
   .rw[hr w];exact⟨rfl,v,hC g args v hcl,next v (kX hk)⟩
  .rw[aG (by simp[hw])]
   exact next undef (kX h)
def AE:Op->Bool
 |.load .. |.convert .. =>true
 |_=>false
def L8:Op->Bool
 |.move _|.assign _|.pick .. |.load .. |.nilCheck _|.binOp .. |.unOp .. |.convert .. |.slice .. |.fieldAddr .. |.field .. |.indexAddr .. |.index .. |.extract .. |.makeInterface .. |.makeFunc .. |.build .. =>true
 |.call ⟨.builtin .len,_,_⟩|.call ⟨.builtin .cap,_,_⟩|.call ⟨.builtin .max,_,_⟩|.call ⟨.builtin .min,_,_⟩=>true
 |_=>false
def oG(ops:List Oper)(i:Nat):Bool:=match ops[i]? with
 |some o=>AE o.op
 |none=>false
def Nv(ops:List Oper):Nat->Nat->Nat->Bool
 |0,_,_=>false
 |n+1,j,i=>match ops[j]? with
  |some o=>o.after.toList.any λe=>Region.binds .any e&&(Nat.beq e.on i||Nv ops n e.on i)
  |none=>false
def aIw(ops:List Oper)(j:Nat):Bool:=(List.range ops.length).any λi=>oG ops i&& !Nat.beq i j&& !Nv ops ops.length j i
def AF(ops:List Oper)(listed:Array Bool):Prop:=∀j o,ops[j]?=some o->listed.getD j false=true->∀e∈o.after,Region.binds .any e=true->listed.getD e.on false=true
def aqA{ops:List Oper}{listed:Array Bool}{i:Nat}(hc:AF ops listed)(hi:listed.getD i false=false):∀(n j:Nat),(listed.getD j false=true\/j∈Region.ready .any ⟨ops⟩ listed)->Nv ops n j i=false:=by
 intro n
 induction n with
 |zero=>intro j _;rfl
 |succ n ih=>
  intro j hj;unfold Nv;cases ho:ops[j]? with
  |none=>rfl
  |some o=>
   have hall:∀e∈o.after,Region.binds .any e=true->listed.getD e.on false=true:=by
    rcases hj with hj|hj
    .exact hc j o ho hj
    .obtain⟨_,o',ho',hall⟩:=mem_ready.1 hj
     have:o'=o:=by
      have h2:ops[j]?=some o':=by simpa using ho'
      rw[ho]at h2;exact(bU h2).symm
     subst this;exact hall
   simp only;rw[List.any_eq_false];intro e he hb;rw[aHo]at hb;have hl:=hall e (by simpa using he) hb.1;rw[KG]at hb;rcases hb.2 with hb|hb
   .have:=oz hb
    rw[this,hi]at hl;cases hl
   .rw[ih e.on (.inl hl)]at hb
    cases hb
def D1{ops:List Oper}{listed:Array Bool}{j:Nat}(hc:AF ops listed)(hj:j∈Region.ready .any ⟨ops⟩ listed):AF ops (listed.setIfInBounds j true):=by
 intro k o hk hl e he hb
 by_cases hkj:k=j
 .subst hkj
  obtain⟨_,o',ho',hall⟩:=mem_ready.1 hj;have:o'=o:=by
   have h2:ops[k]?=some o':=by simpa using ho'
   rw[hk]at h2;exact(bU h2).symm
  subst this;exact getD_set_true (hall e he hb)
 .rw[getD_set_ne false (yq hkj)]at hl
  exact getD_set_true (hc k o hk hl e he hb)
def atW{listed:Array Bool}{i:Nat}(h:listed.getD i true=false):listed.getD i false=false:=by
 rcases yl i listed.size with h'|h'
 .simp[h']at h⊢;exact h
 .simp[PR h']at h
def L9{ops:List Oper}{listed:Array Bool}{i j:Nat}(hc:AF ops listed)(hi:listed.getD i true=false)(hne:j≠i)(hl:oG ops i=true)(hj:j∈Region.ready .any ⟨ops⟩ listed):aIw ops j=true:=by
 unfold aIw;rw[List.any_eq_true];have hlt:i<ops.length:=by
  unfold oG at hl;split at hl
  .rename_i o ho;exact(iU.1 ho).1
  .cases hl
 refine⟨i,yg.2 hlt,?_⟩;rw[aHo,aHo];refine⟨⟨hl,?_⟩,?_⟩
 .cases hb:Nat.beq i j with
  |false=>rfl
  |true=>exact(hne (oz hb).symm).elim
 .rw[aqA hc (atW hi) _ j (.inr hj)];rfl
def aIj(ops:List Oper)(i:Nat):Bool:=match ops[i]? with
 |some o=>L8 o.op
 |none=>false
def M3(ops:List Oper)(S:World->Prop)(i:Nat)(w w':World):Prop:=(aIj ops i=true->w'=w)/\(aIj ops i=false->aIw ops i=true->S w')
def Cv(P:Program)(ops:List Oper)(Q:Exit->Act->World->Prop)(S:World->Prop):Nat->Array Bool->Act->World->Prop
 |0,listed,a,w=>Region.ready .any ⟨ops⟩ listed=[]/\Q .normal a w
 |fuel+1,listed,a,w=>
  (Region.ready .any ⟨ops⟩ listed=[]->Q .normal a w)/\
  ∀i∈Region.ready .any ⟨ops⟩ listed,wpOp P ⟨ops⟩ Q i (λa' w'=>M3 ops S i w w'/\Cv P ops Q S fuel (listed.setIfInBounds i true) a' w') a w
section
variable{P:Program}{ops:List Oper}{Q:Exit->Act->World->Prop}{S:World->Prop}
def aaI:∀(fuel:Nat) (listed:Array Bool) (a:Act) (w:World),Cv P ops Q S fuel listed a w->wpAny P .any ⟨ops⟩ Q fuel listed a w
 |0,_,_,_,h=>h
 |fuel+1,_,_,_,h=>⟨h.1,λi hi=>wpOp_mono (λa' w' h'=>aaI fuel _ a' w' h'.2) (h.2 i hi)⟩
def aoP{i:Nat}{oi:Oper}{v:Value}(hq:aIj ops i=true)(hi:(Array.mk ops)[i]?=some oi)(hsel:∀(j:Nat) (o:Oper) cs b,(Array.mk ops)[j]?=some o->o.op≠.select cs b)
  (hQ:∀c a w,Q (.panic c) (a.put oi.dst v) w->Q (.panic c) a w):
  ∀(fuel:Nat) (listed:Array Bool) (a:Act) (w:World),AF ops listed->
   (∀j oj,(Array.mk ops)[j]?=some oj->j≠i->listed.getD j true=false->(∀e∈oj.after,Region.binds .any e=true->e.on≠i)->oi.apart ⟨ops⟩ oj=true)->
   i∈Region.ready .any ⟨ops⟩ listed->YieldsIf P ⟨ops⟩ (λw=>oG ops i=true->S w) oi v a->(oG ops i=true->S w)->
   Cv P ops Q S fuel (listed.setIfInBounds i true) (a.put oi.dst v) w->Cv P ops Q S (fuel+1) listed a w:=by
 intro fuel
 induction fuel with
 |zero=>
  intro listed a w hcl _ hr hy hS H;refine⟨λh=>(by rw[h]at hr;cases hr),λj hj=>?_⟩
  by_cases hji:j=i
  .subst hji;exact hy.wpOp hi hS ⟨⟨λ_=>rfl,λh=>by rw[hq]at h;cases h⟩,H⟩
  .have:=ready_mono hj hji
   rw[H.1]at this;cases this
 |succ fuel ih=>
  intro listed a w hcl hfree hr hy hS H;refine⟨λh=>(by rw[h]at hr;cases hr),λj hj=>?_⟩
  by_cases hji:j=i
  .subst hji;exact hy.wpOp hi hS ⟨⟨λ_=>rfl,λh=>by rw[hq]at h;cases h⟩,H⟩
  .have h1:=H.2 j (ready_mono hj hji)
   obtain⟨Iz,oj,Bk,hall⟩:=mem_ready.1 hj;have hnot:∀e∈oj.after,Region.binds .any e=true->e.on≠i:=λe he hb heq=>by
    have h1:=hall e he hb;have h0:=(mem_ready.1 hr).1;rw[heq]at h1;rcases yl i listed.size with h'|h'
    .simp[h']at h0 h1;rw[h0]at h1;cases h1
    .simp[PR h']at h1
   have h2:=wpOp_putIf Bk (hfree j oj Bk hji Iz hnot) (λcs b=>hsel i oi cs b hi) (λcs b=>hsel j oj cs b Bk) hQ hy h1;have Uo:∀k ok,(Array.mk ops)[k]?=some ok->k≠i->(listed.setIfInBounds j true).getD k true=false->
     (∀e∈ok.after,Region.binds .any e=true->e.on≠i)->oi.apart ⟨ops⟩ ok=true:=λk ok hk hki hun hno=>by
    refine hfree k ok hk hki ?_ hno
    by_cases hjk:j=k
    .subst hjk;exact Iz
    .rw[getD_set_ne true hjk]at hun;exact hun
   refine wpOp_mono (λa' w' h3=>⟨h3.2.1,ih (listed.setIfInBounds j true) a' w' (D1 hcl hj) Uo (ready_mono hr (yq hji)) h3.1 (λhl=>?_) ?_⟩) h2
   .cases I4:aIj ops j with
    |true=>rw[h3.2.1.1 I4];exact hS hl
    |false=>exact h3.2.1.2 I4 (L9 hcl (mem_ready.1 hr).1 hji hl hj)
   .rw[aKX _ _ hji]
    exact h3.2.2
end
def aIa(P:Program)(ops:List Oper)(S:World->Prop)(K:Fr->World->Prop)(E:List PanicEntry->World->Prop):Nat->Array Bool->Fr->World->Prop
 |0,listed,l,w=>an (Region.ready .any ⟨ops⟩ listed).isEmpty (K l w) False
 |n+1,listed,l,w=>match Region.ready .any ⟨ops⟩ listed with
  |[]=>K l w
  |i::rs=>match(i::rs).find? (aIj ops)with
   |some i=>match ops[i]? with
    |some o=>an (Region.free .any ⟨ops⟩ listed i) (yC ops l o.guard
      (λl=>vE P l o (λa v=>∀w1,S w1->w1.cell? a=some v) λv=>qe l o.dst v λl'=>aIa P ops S K E n (listed.setIfInBounds i true) l' w)
      (λl=>qe l o.dst undef λl'=>aIa P ops S K E n (listed.setIfInBounds i true) l' w)) False
    |none=>False
   |none=>M4 (λi=>match ops[i]? with
    |some o=>yC ops l o.guard
      (λl=>aIG P l o w (λv w'=>qe l o.dst v λl'=>an (aIw ops i) (S w'/\aIa P ops S K E n (listed.setIfInBounds i true) l' w') (aIa P ops S K E n (listed.setIfInBounds i true) l' w')) E)
      (λl=>qe l o.dst undef λl'=>an (aIw ops i) (S w/\aIa P ops S K E n (listed.setIfInBounds i true) l' w) (aIa P ops S K E n (listed.setIfInBounds i true) l' w))
    |none=>False) (i::rs)
where
 M4 (f:Nat->Prop):List Nat->Prop
  |[]=>True
  |[i]=>f i
  |i::r=>f i/\M4 f r
def abP{f:Nat->Prop}{l:List Nat}(h:aIa.M4 f l):∀i∈l,f i:=by
 induction l with
 |nil=>intro i hi;cases hi
 |cons x r ih=>
  intro i hi;cases r with
  |nil=>
   obtain rfl:i=x:=by simpa using hi
   exact h
  |cons y r=>
   rcases aHs.1 hi with rfl|hi
   .exact h.1
   .exact ih h.2 i hi
def aaJ{P:Program}{o:Oper}{l:Fr}{Rd Wd:Addr->Value->Prop}{K:Value->Prop}(hl:AE o.op=false)(h:vE P l o Rd K):vE P l o Wd K:=by
 unfold vE at h⊢;split at h<;>first|exact h|skip
 .rename_i t x ho
  rw[ho]at hl;cases hl
 .rename_i s d x ho
  rw[ho]at hl;cases hl
def LN{ops:List Oper}{l l':Fr}{i:Nat}{o:Oper}{v:Value}(hi:ops[i]?=some o)(h:cu (e9 ops) l l'):cu (e9 ops) l (put l' o.dst v):=by refine h.trans (cu.put l' o.dst v) (λt ht=>ht) (λt ht=>?_);simp only[e9,QS];exact⟨o,aJk hi,ht⟩
def aaK{op:Op}(h:AE op=true):L8 op=true:=by cases op<;>simp[AE]at h<;>rfl
def apy{P:Program}{ops:List Oper}{ds:List Deferred}{S:World->Prop}{K:Fr->World->Prop}{E:List PanicEntry->World->Prop}{Q:Exit->Act->World->Prop}{l0:Fr}
  (hsel:Region.noSelect ⟨ops⟩=true)(hQ:∀o∈ops,∀c a v w,Q (.panic c) (a.put o.dst v) w->Q (.panic c) a w)(hE:∀l' c w',cu (e9 ops) l0 l'->E c w'->Q (.panic c) (act l' ds) w')
  (hK:∀l' w',cu (e9 ops) l0 l'->K l' w'->Q .normal (act l' ds) w'):
  ∀(n:Nat) (listed:Array Bool) (l:Fr) (w:World),aIa P ops S K E n listed l w->AF ops listed->cu (e9 ops) l0 l->((∃i,listed.getD i true=false/\oG ops i=true)->S w)->
   Cv P ops Q S n listed (act l ds) w:=by
 intro n
 induction n with
 |zero=>intro listed l w h hc ha hS;obtain⟨hr,h⟩:=dZ h;exact⟨QO.1 hr,hK l w ha h⟩
 |succ n ih=>
  intro listed l w h hc ha hS;unfold aIa at h;split at h
  .rename_i hr
   exact⟨λ_=>hK l w ha h,by rw[hr];simp⟩
  .rename_i i0 rs hr
   split at h
   .rename_i i hf
    have hq:aIj ops i=true:=Q5 hf;have hmem:i∈Region.ready .any ⟨ops⟩ listed:=by rw[hr];exact PG hf
    split at h
    .rename_i o ho
     obtain⟨hfree,h⟩:=dZ h;have aIH:(Array.mk ops)[i]?=some o:=by simpa using ho
     have hun:=(mem_ready.1 hmem).1;have step:∀v,YieldsIf P ⟨ops⟩ (λw=>oG ops i=true->S w) o v (act l ds)->aIa P ops S K E n (listed.setIfInBounds i true) (put l o.dst v) w->Cv P ops Q S (n+1) listed (act l ds) w:=by
      intro v hy hn;refine aoP hq aIH (Region.noSelect_spec hsel) (λc a w h=>hQ o (aJk ho) c a _ w h) n listed _ w hc (Region.free_spec aIH hfree) hmem hy (λhl=>hS ⟨i,hun,hl⟩) ?_;rw[wV];refine ih _ _ w hn (D1 hc hmem) (LN ho ha) ?_;rintro⟨k,hk,hl⟩;refine hS ⟨k,?_,hl⟩
      by_cases hki:i=k
      .subst hki
       exact hun
      .rwa[getD_set_ne true hki]at hk
     rcases yo (ds:=ds) h with⟨hw,h⟩|⟨hw,h⟩
     .cases hl:AE o.op with
      |false=>obtain⟨v,hk,hrun⟩:=Eg (ds:=ds) (aaJ (Wd:=λ_ _=>False) hl h);exact step v (.inl ⟨hw,λw _=>hrun w (λ_ _ h=>h.elim)⟩) (kX hk)
      |true=>
       obtain⟨v,hk,hrun⟩:=Eg (ds:=ds) h;have hlb:oG ops i=true:=by unfold oG;rw[ho];exact hl
       exact step v (.inl ⟨hw,λw hs=>hrun w (λa u h=>h w (hs hlb))⟩) (kX hk)
     .exact step undef (.inr ⟨hw,rfl⟩) (kX h)
    .exact h.elim
   .rename_i hnone
    have h:=abP h;refine⟨λh0=>(by rw[hr]at h0;cases h0),λi hi=>?_⟩;have hi':i∈i0::rs:=by rw[<-hr];exact hi
    have h:=h i hi';have hq:aIj ops i=false:=by have:=Yy.1 hnone i hi';simpa using this
    split at h
    .rename_i o ho
     have aIH:(Array.mk ops)[i]?=some o:=by simpa using ho
     have next:∀v w',an (aIw ops i) (S w'/\aIa P ops S K E n (listed.setIfInBounds i true) (put l o.dst v) w') (aIa P ops S K E n (listed.setIfInBounds i true) (put l o.dst v) w')->
       M3 ops S i w w'/\Cv P ops Q S n (listed.setIfInBounds i true) ((act l ds).put o.dst v) w':=by
      intro v w' h;rw[wV];have rest:aIa P ops S K E n (listed.setIfInBounds i true) (put l o.dst v) w':=by
       rw[gK]at h;cases hb:aIw ops i with
       |true=>exact(h.1 hb).2
       |false=>exact h.2 hb
      have need:aIw ops i=true->S w':=λhb=>by rw[gK]at h;exact(h.1 hb).1
      refine⟨⟨λI5=>(by rw[hq]at I5;cases I5),λ_=>need⟩,ih _ _ w' rest (D1 hc hi) (LN ho ha) ?_⟩;rintro⟨k,hk,hl⟩
      by_cases hki:i=k
      .subst hki
       unfold oG at hl;unfold aIj at hq;rw[ho]at hl hq;have h1:AE o.op=true:=hl;have h2:L8 o.op=false:=hq;rw[aaK h1]at h2;cases h2
      .rw[getD_set_ne true hki]at hk
       exact need (L9 hc hk hki hl hi)
     unfold wpOp;simp only[aIH];rcases yo (ds:=ds) h with⟨hw,h⟩|⟨hw,h⟩
     .rw[aL hw]
      exact .inl (LM h (λv w' hk=>next v w' (kX hk)) (λc w' he=>hE l c w' ha he))
     .rw[aG (by simp[hw])]
      exact next undef w (kX h)
    .exact h.elim
inductive M5 where
 |still
 |tail(n:Nat)
 |held
def drawn(P:Program)(m:M5)(ops:List Oper)(K:Fr->World->Prop)(E:List PanicEntry->World->Prop)(l:Fr)(w:World):Prop:=match m with
 |.still=>an (P.follows .mixedOrders&&Region.lexB .any ⟨ops⟩) (A5 P ops (λa v=>w.cell? a=some v) (λg args v=>Calls P g ⟨args⟩ w.drew λe w'=>e=.returned v/\w'=w.drew) (λl'=>K l' w.drew) ops l) False
 |.tail n=>an (P.follows .mixedOrders&&Region.lexTailB .any ⟨ops⟩ n) (A5 P ops (λa v=>w.cell? a=some v) (λg args v=>Calls P g ⟨args⟩ w.drew λe w'=>e=.returned v/\w'=w.drew)
   (λl'=>aI9 P ops K E (ops.drop n) l' w.drew) (ops.take n) l) False
 |.held=>an (P.follows .mixedOrders&&Region.noSelect ⟨ops⟩) (∃S:World->Prop,S w.drew/\aIa P ops S K E ops.length (Array.replicate ops.length false) l w.drew) False
def apz(a b:List Oper):e9 (a++b)=e9 a++e9 b:=by simp[e9]
def D0{P:Program}{m:M5}{id:Nat}{ops:List Oper}{ds:List Deferred}{K:Fr->World->Prop}{E:List PanicEntry->World->Prop}{Q:Exit->Act->World->Prop}{l:Fr}{w:World}
  (h:drawn P m ops K E l w)(hK:∀l' w',cu (e9 ops) l l'->K l' w'->Q .normal (act l' ds) w')(hE:∀l' c w',cu (e9 ops) l l'->E c w'->Q (.panic c) (act l' ds) w'):
  (Code.region id ⟨ops⟩ true).wp P Q (act l ds) w:=by
 cases m with
 |still=>obtain⟨hb,h⟩:=dZ h;rw[aHo]at hb;refine wp_region_quiet (C:=λw'=>w'=w.drew) hb.1 hb.2 rfl ?_;exact aqy (λw1 e=>by subst e;exact λa u h=>h) (λg args v hc w1 e=>by subst e;exact hc) h λl' ha hk w1 e=>by subst e;exact hK l' _ ha hk
 |tail n=>
  obtain⟨hb,h⟩:=dZ h;rw[aHo]at hb;refine wp_region_still_tail n hb.1 hb.2 ?_;refine aqz (w:=w.drew) (λa u h=>h) (λg args v hc=>hc) h λl' ha hk=>?_;have e:e9 ops=e9 (ops.take n)++e9 (ops.drop n):=by rw[<-apz,pV]
  have step:∀{l2:Fr},cu (e9 (ops.drop n)) l' l2->cu (e9 ops) l l2:=by intro l2 tI;rw[e];exact ha.trans tI (λt ht=>sX _ ht) (λt ht=>aI0 _ ht)
  exact aad (λl2 c w2 tI he=>hE l2 c w2 (step tI) he) hk λl2 w2 tI hk2=>hK l2 w2 (step tI) hk2
 |held=>
  obtain⟨hb,S,hs,h⟩:=dZ h;rw[aHo]at hb
  let Q':Exit->Act->World->Prop:=λe a w=>match e with
   |.normal=>Q .normal a w
   |.panic c=>a.defers=ds/\cu (e9 ops) l a.tmps.toList/\E c w
   |_=>False
  have h1:(Code.region id ⟨ops⟩ true).wp P Q' (act l ds) w:=by
   refine wp_region_any hb.1 (aaI (S:=S) _ _ _ _ ?_);refine apy (Q:=Q') (l0:=l) hb.2 (λo ho c a v w h=>?_) (λl' c w' ha he=>⟨rfl,ha,he⟩) (λl' w' ha hk=>hK l' w' ha hk) _ _ _ _ h ?_ (cu.refl _ _) (λ_=>hs)
   .refine⟨?_,?_,h.2.2⟩
    .have:=h.1
     cases hd:o.dst with
     |none=>rw[hd]at this;exact this
     |some d=>rw[hd]at this;exact this
    .have h2:=h.2.1
     cases hd:o.dst with
     |none=>rw[hd]at h2;exact h2
     |some d=>
      rw[hd]at h2;have hmem:d∈e9 ops:=by simp only[e9,QS];exact⟨o,ho,by rw[hd];simp⟩
      refine⟨?_,λt ht=>?_⟩
      .have:=h2.1
       simpa[Act.put]using this
      .have:=h2.2 t ht
       have hne:d≠t:=λe=>ht (e▸hmem);simpa[Act.put,rJ hne]using this
   .intro j o _ hl
    exfalso;simp only[J3,X_]at hl;split at hl<;>cases hl
  refine Go.wp_mono h1 λe a w' hq=>?_;cases e<;>simp only[Q']at hq<;>first|exact hq|exact hq.elim|skip
  obtain⟨hd,ha,he⟩:=hq;have:=hE a.tmps.toList _ w' ha he;have e:act a.tmps.toList ds=a:=by cases a;cases hd;rfl
  rwa[e]at this
structure CF where
 normal:Fr->World->Prop
 exit:Nat->Fr->World->Prop
 ret:Fr->World->Prop
 panic:List PanicEntry->World->Prop
def written:Code->List Nat
 |.region _ ⟨ops⟩ _=>e9 ops
 |.seq a b=>written a++written b
 |.cond _ a b=>written a++written b
 |.block _ c=>written c
 |.loop c=>written c
 |_=>[]
def AR(l:Fr):List (Nat×Ty)->(List Value->Prop)->Prop
 |[],K=>K []
 |(t,_)::r,K=>tw l t λv=>AR l r λvs=>K (v::vs)
def AS:List (Nat×Ty)->List Value->Fr->(Fr->Prop)->Prop
 |(t,_)::r,v::vs,l,K=>xh l t v λl'=>AS r vs l' K
 |_,_,l,K=>K l
def AG(us:Nat->Value):List Nat->Fr->(Fr->Prop)->Prop
 |[],l,K=>K l
 |t::r,l,K=>xh l t (us t) λl'=>AG us r l' K
structure nX where
 live:List (Nat×List (Nat×Ty)):=[]
 lY:List (Nat×M5):=[]
 xk:List Nat:=[]
def Nw(pl:nX)(p:Nat)(A:Prop):Prop:=an (pl.xk.any (Nat.beq p)) False A
def acW{pl:nX}{p:Nat}{A:Prop}(h:Nw pl p A):A:=by
 unfold Nw at h;rw[gK]at h;cases hc:pl.xk.any (Nat.beq p)with
 |true=>exact(h.1 hc).elim
 |false=>exact h.2 hc
def lookup{α:Type}:List (Nat×α)->Nat->Option α
 |[],_=>none
 |(k,v)::r,n=>bif Nat.beq k n then some v else lookup r n
def ga:List (Nat×Ty)->List Ty
 |[]=>[]
 |(_,x)::r=>x::ga r
def vc(P:Program)(pl:nX):Code->Nat->CF->Fr->World->Prop
 |.skip,_,C,l,w=>C.normal l w
 |.region _ ⟨ops⟩ false,_,C,l,w=>aI9 P ops C.normal C.panic ops l w
 |.region id ⟨ops⟩ true,_,C,l,w=>match lookup pl.lY id with
  |some m=>drawn P m ops C.normal C.panic l w
  |none=>drawn P .still ops C.normal C.panic l w
 |.seq a b,p,C,l,w=>match lookup pl.live p with
  |none=>vc P pl a (2*p) {C with normal:=λl' w'=>vc P pl b (2*p+1) C l' w'} l w
  |some sp=>∃J:dQ (ga sp) (World->Prop),
    vc P pl a (2*p) {C with normal:=λl' w'=>AR l' sp λvs=>dQ.app (ga sp) J vs λq=>q w'} l w/\
    AD (ga sp) λvs=>∀(us:Nat->Value) (w':World),(dQ.app (ga sp) J vs λq=>q w')->AG us (written a) l λl1=>AS sp vs l1 λl2=>vc P pl b (2*p+1) C l2 w'
 |.cond c a b,p,C,l,w=>cR l c λv=>match v with
  |.bool t=>an t (Nw pl (2*p) (vc P pl a (2*p) C l w)) (Nw pl (2*p+1) (vc P pl b (2*p+1) C l w))
  |_=>False
 |.block id c,p,C,l,w=>vc P pl c (2*p) {C with exit:=λi l' w'=>an (Nat.beq i id) (C.normal l' w') (C.exit i l' w')} l w
 |.loop c,p,C,l,w=>match lookup pl.live p with
  |none=>False
  |some sp=>∃(I:dQ (ga sp) (World->Prop)) (m:dQ (ga sp) (World->Nat)),
    (AR l sp λvs=>dQ.app (ga sp) I vs λq=>q w)/\
    AD (ga sp) λvs=>∀(us:Nat->Value) (w':World),(dQ.app (ga sp) I vs λq=>q w')->AG us (written c) l λl1=>AS sp vs l1 λl2=>
     vc P pl c (2*p) {C with normal:=λl3 w3=>AR l3 sp λvs'=>(dQ.app (ga sp) I vs' λq=>q w3)/\dQ.app (ga sp) m vs' λm1=>dQ.app (ga sp) m vs λm0=>m1 w3<m0 w'} l2 w'
 |.exit i,_,C,l,w=>C.exit i l w
 |.ret,_,C,l,w=>C.ret l w
 |_,_,_,_,_=>False
def Ew(us:Nat->Value):List Nat->Fr->Fr
 |[],l=>l
 |t::r,l=>Ew us r (l.set t (us t))
def aqB{us:Nat->Value}{ws:List Nat}:∀{l:Fr} {K:Fr->Prop},AG us ws l K->K (Ew us ws l):=by
 induction ws with
 |nil=>intro l K h;exact h
 |cons t r ih=>intro l K h;exact ih (Cg h)
def sets:List (Nat×Ty)->List Value->Fr->Fr
 |(t,_)::r,v::vs,l=>sets r vs (l.set t v)
 |_,_,l=>l
def abQ{sp:List (Nat×Ty)}:∀{vs:List Value} {l:Fr} {K:Fr->Prop},AS sp vs l K->K (sets sp vs l):=by
 induction sp with
 |nil=>intro vs l K h;exact h
 |cons x r ih=>intro vs l K h;cases vs with
  |nil=>exact h
  |cons v vs=>exact ih (Cg h)
def Reads(l:Fr):List (Nat×Ty)->List Value->Prop
 |[],[]=>True
 |(t,_)::r,v::vs=>l[t]?=some v/\Reads l r vs
 |_,_=>False
def D7{l:Fr}{sp:List (Nat×Ty)}:∀{K:List Value->Prop},AR l sp K->∃vs,Reads l sp vs/\K vs:=by
 induction sp with
 |nil=>intro K h;exact⟨[],trivial,h⟩
 |cons x r ih=>intro K h;obtain⟨v,hv,h⟩:=yx h;obtain⟨vs,h1,h2⟩:=ih h;exact⟨v::vs,⟨hv,h1⟩,h2⟩
def asr{l:Fr}{sp:List (Nat×Ty)}:∀{vs:List Value},Reads l sp vs->sets sp vs l=l:=by
 induction sp with
 |nil=>intro vs h;cases vs<;>rfl
 |cons x r ih=>
  intro vs h;cases vs with
  |nil=>exact h.elim
  |cons v vs=>simp only[sets];rw[GX h.1];exact ih h.2
def ass(us:Nat->Value)(ws:List Nat)(t:Nat):∀l:Fr,(Ew us ws l)[t]?=if t∈ws/\t<l.length then some (us t)else l[t]?:=by
 induction ws with
 |nil=>intro l;simp[Ew]
 |cons x r ih=>
  intro l;simp only[Ew,ih,zY,aHs]
  by_cases ht:t<l.length
  ·by_cases hx:x=t
   .subst hx
    by_cases hr:x∈r<;>simp[hr,ht]
   ·by_cases hr:t∈r
    .simp[hr,ht]
    .simp[hr,yq hx,rJ hx]
  .simp[ht]
def atX{ws:List Nat}{l l':Fr}(h:cu ws l l'):Ew (λt=>l'.getD t undef) ws l=l':=by
 apply aIh;intro t;rw[ass]
 by_cases ht:t<l.length
 ·by_cases hw:t∈ws
  .have ht':t<l'.length:=by rw[h.1];exact ht
   simp[hw,ht,List.getD,gW ht']
  .simp[hw,h.2 t hw]
 .have ht':¬t<l'.length:=by rw[h.1];exact ht
  simp[ht,t_ (KB ht),t_ (KB ht')]
def eR.Av{X:Type}{x:iZ}{f:eR x X}{v:Value}{K K':X->Prop}(h:eR.app x f v K)(h':eR.app x f v K'):eR.app x f v λy=>K y/\K' y:=by
 cases x<;>cases v<;>simp only[eR.app]at h h'⊢<;>first|exact h.elim|exact⟨h,h'⟩|skip
 rename_i k k' n;cases hd:decide (k=k')<;>simp[hd]at h h'⊢;exact⟨h,h'⟩
def gG.Av{X:Type}{l:List iZ}{f:gG l X}{vs:List Value}{K K':X->Prop}(h:gG.app l f vs K)(h':gG.app l f vs K'):gG.app l f vs λy=>K y/\K' y:=by
 induction l generalizing vs with
 |nil=>cases vs with
  |nil=>exact⟨h,h'⟩
  |cons v vs=>exact h.elim
 |cons x r ih=>cases vs with
  |nil=>exact h.elim
  |cons v vs=>exact eR.Am (eR.Av h h') λg hg=>ih hg.1 hg.2
def iy.Av{X:Type}{x:Ty}{f:iy x X}{v:Value}{K K':X->Prop}(h:iy.app x f v K)(h':iy.app x f v K'):iy.app x f v λy=>K y/\K' y:=by
 cases x with
 |leaf x=>exact eR.Av h h'
 |agg l=>cases v<;>first|exact h.elim|exact gG.Av h h'
 |eN n=>cases v<;>first|exact h.elim|exact⟨h.1,h.2,h'.2⟩
def dQ.Av{X:Type}{l:List Ty}{f:dQ l X}{vs:List Value}{K K':X->Prop}(h:dQ.app l f vs K)(h':dQ.app l f vs K'):∃y,K y/\K' y:=by
 induction l generalizing vs with
 |nil=>cases vs with
  |nil=>exact⟨_,h,h'⟩
  |cons v vs=>exact h.elim
 |cons x r ih=>cases vs with
  |nil=>exact h.elim
  |cons v vs=>obtain⟨g,hg1,hg2⟩:=iy.Cf (iy.Av h h');exact ih hg1 hg2
def ast{l:Fr}{sp:List (Nat×Ty)}:∀{vs vs':List Value},Reads l sp vs->Reads l sp vs'->vs=vs':=by
 induction sp with
 |nil=>intro vs vs' h h';cases vs<;>cases vs'<;>first|rfl|exact h.elim|exact h'.elim
 |cons x r ih=>
  intro vs vs' h h';cases vs with
  |nil=>exact h.elim
  |cons v vs=>cases vs' with
   |nil=>exact h'.elim
   |cons v' vs'=>have:=h.1.symm.trans h'.1;obtain rfl:=bU this;rw[ih h.2 h'.2]
def eR.Aw{X:Type}{x:iZ}{f:eR x X}{v:Value}{K:X->Prop}(h:eR.app x f v K):∃y,K y/\∀K':X->Prop,K' y->eR.app x f v K':=by
 cases x<;>cases v<;>simp only[eR.app]at h⊢<;>first|exact h.elim|exact⟨_,h,λ_ h'=>h'⟩|skip
 rename_i k k' n;cases hd:decide (k=k')<;>simp only[hd,asf,aqn]at h⊢;exact⟨_,h,λ_ h'=>h'⟩
def gG.Aw{X:Type}{l:List iZ}{f:gG l X}{vs:List Value}{K:X->Prop}(h:gG.app l f vs K):∃y,K y/\∀K':X->Prop,K' y->gG.app l f vs K':=by
 induction l generalizing vs with
 |nil=>cases vs with
  |nil=>exact⟨_,h,λ_ h'=>h'⟩
  |cons v vs=>exact h.elim
 |cons x r ih=>cases vs with
  |nil=>exact h.elim
  |cons v vs=>obtain⟨g,hg,hall⟩:=eR.Aw h;obtain⟨y,hy,UR⟩:=ih hg;exact⟨y,hy,λK' hk=>hall _ (UR K' hk)⟩
def iy.Aw{X:Type}{x:Ty}{f:iy x X}{v:Value}{K:X->Prop}(h:iy.app x f v K):∃y,K y/\∀K':X->Prop,K' y->iy.app x f v K':=by
 cases x with
 |leaf x=>exact eR.Aw h
 |agg l=>cases v<;>first|exact h.elim|exact gG.Aw h
 |eN n=>cases v<;>first|exact h.elim|exact⟨_,h.2,λ_ h'=>⟨h.1,h'⟩⟩
def dQ.Aw{X:Type}{l:List Ty}{f:dQ l X}{vs:List Value}{K:X->Prop}(h:dQ.app l f vs K):∃y,K y/\∀K':X->Prop,K' y->dQ.app l f vs K':=by
 induction l generalizing vs with
 |nil=>cases vs with
  |nil=>exact⟨_,h,λ_ h'=>h'⟩
  |cons v vs=>exact h.elim
 |cons x r ih=>cases vs with
  |nil=>exact h.elim
  |cons v vs=>obtain⟨g,hg,hall⟩:=iy.Aw h;obtain⟨y,hy,UR⟩:=ih hg;exact⟨y,hy,λK' hk=>hall _ (UR K' hk)⟩
def aeM(sp:List (Nat×Ty))(m:dQ (ga sp) (World->Nat))(a:Act)(w:World)(n:Nat):Prop:=
 ∃vs,Reads a.tmps.toList sp vs/\dQ.app (ga sp) m vs λz=>z w=n
open Classical in
noncomputable def Nx(sp:List (Nat×Ty))(m:dQ (ga sp) (World->Nat))(a:Act)(w:World):Nat:=
 if h:∃n,aeM sp m a w n then Classical.choose h else 0
def L_{sp:List (Nat×Ty)}{m:dQ (ga sp) (World->Nat)}{a:Act}{w:World}{vs:List Value}{K:(World->Nat)->Prop}(hr:Reads a.tmps.toList sp vs)(h:dQ.app (ga sp) m vs K):
  ∃y,K y/\Nx sp m a w=y w:=by
 obtain⟨y,hy,hall⟩:=dQ.Aw h;refine⟨y,hy,?_⟩;have hex:∃n,aeM sp m a w n:=⟨y w,vs,hr,hall _ rfl⟩;unfold Nx;rw[dif_pos hex];obtain⟨vs',hr',h'⟩:=Classical.choose_spec hex;rw[ast hr' hr]at h';obtain⟨z,h1,h2⟩:=dQ.Av h' (hall (λz=>z=y) rfl);rw[<-h1,h2]
def GC{ws:List Nat}{l l':Fr}{sp:List (Nat×Ty)}{vs:List Value}{K:Fr->Prop}(ha:cu ws l l')(hr:Reads l' sp vs)
  (h:∀us:Nat->Value,AG us ws l λl1=>AS sp vs l1 K):K l':=by
 have h1:=abQ (aqB (h λt=>l'.getD t undef));rw[atX ha,asr hr]at h1;exact h1
def ny{P:Program}{pl:nX}{ds:List Deferred}:∀(c:Code) (p:Nat) (C:CF) (l:Fr) (w:World) (Q:Exit->Act->World->Prop),vc P pl c p C l w->
  (∀l' w',cu (written c) l l'->C.normal l' w'->Q .normal (act l' ds) w')->(∀i l' w',cu (written c) l l'->C.exit i l' w'->Q (.exit i) (act l' ds) w')->
  (∀l' w',C.ret l' w'->Q .ret (act l' ds) w')->(∀l' ch w',cu (written c) l l'->C.panic ch w'->Q (.panic ch) (act l' ds) w')->c.wp P Q (act l ds) w
 |.skip,p,C,l,w,Q,h,hn,_,_,_=>wp_skip (hn l w (cu.refl _ _) h)
 |.region id ⟨ops⟩ false,p,C,l,w,Q,h,hn,_,_,hp=>wp_region_list (aad hp h λl' w' ha hk=>hn l' w' ha hk)
 |.region id ⟨ops⟩ true,p,C,l,w,Q,h,hn,_,_,hp=>by
  simp only[vc]at h;split at h
  .exact D0 h (λl' w' ha hk=>hn l' w' ha hk) hp
  .exact D0 h (λl' w' ha hk=>hn l' w' ha hk) hp
 |.seq a b,p,C,l,w,Q,h,hn,he,hr,hp=>by
  simp only[vc]at h;have left:∀{l':Fr},cu (written a) l l'->cu (written (.seq a b)) l l':=λha=>ha.mono λt ht=>sX _ ht;have both:∀{l' l2:Fr},cu (written a) l l'->cu (written b) l' l2->cu (written (.seq a b)) l l2:=λha hb=>ha.trans hb (λt ht=>sX _ ht) (λt ht=>aI0 _ ht);refine wp_seq ?_;split at h
  .refine ny a (2*p) _ l w _ h (λl' w' ha hk=>?_) (λi l' w' ha hk=>he i l' w' (left ha) hk) (λl' w' hk=>hr l' w' hk) (λl' ch w' ha hk=>hp l' ch w' (left ha) hk)
   exact ny b (2*p+1) C l' w' Q hk (λl2 w2 hb hk=>hn l2 w2 (both ha hb) hk) (λi l2 w2 hb hk=>he i l2 w2 (both ha hb) hk) hr (λl2 ch w2 hb hk=>hp l2 ch w2 (both ha hb) hk)
  .rename_i sp _
   obtain⟨J,h1,h2⟩:=h;refine ny a (2*p) _ l w _ h1 (λl' w' ha hk=>?_) (λi l' w' ha hk=>he i l' w' (left ha) hk) (λl' w' hk=>hr l' w' hk) (λl' ch w' ha hk=>hp l' ch w' (left ha) hk);obtain⟨vs,hrd,hj⟩:=D7 hk;have h3:=dQ.uI hj h2;have h4:=GC ha hrd λus=>h3 us w' hj;exact ny b (2*p+1) C l' w' Q h4 (λl2 w2 hb hk=>hn l2 w2 (both ha hb) hk) (λi l2 w2 hb hk=>he i l2 w2 (both ha hb) hk) hr (λl2 ch w2 hb hk=>hp l2 ch w2 (both ha hb) hk)
 |.cond c a b,p,C,l,w,Q,h,hn,he,hr,hp=>by
  simp only[vc]at h;have h:=cM (ds:=ds) h;split at h
  .rename_i v t hv
   rw[gK]at h;refine wp_cond_split hv (λht=>?_) (λhf=>?_)
   .exact ny a (2*p) C l w Q (acW (h.1 ht)) (λl' w' ha hk=>hn l' w' (ha.mono λt ht=>sX _ ht) hk) (λi l' w' ha hk=>he i l' w' (ha.mono λt ht=>sX _ ht) hk) hr (λl' ch w' ha hk=>hp l' ch w' (ha.mono λt ht=>sX _ ht) hk)
   .exact ny b (2*p+1) C l w Q (acW (h.2 hf)) (λl' w' ha hk=>hn l' w' (ha.mono λt ht=>aI0 _ ht) hk) (λi l' w' ha hk=>he i l' w' (ha.mono λt ht=>aI0 _ ht) hk) hr (λl' ch w' ha hk=>hp l' ch w' (ha.mono λt ht=>aI0 _ ht) hk)
  .exact h.elim
 |.block id c,p,C,l,w,Q,h,hn,he,hr,hp=>by
  simp only[vc]at h;refine wp_block (ny c (2*p) _ l w _ h (λl' w' ha hk=>hn l' w' ha hk) (λi l' w' ha hk=>?_) (λl' w' hk=>hr l' w' hk) (λl' ch w' ha hk=>hp l' ch w' ha hk))
  replace hk:an (Nat.beq i id) (C.normal l' w') (C.exit i l' w'):=hk
  rw[gK]at hk;simp only[Exit.inBlock]
  by_cases hi:i=id
  .rw[aL hi]
   exact hn l' w' ha (hk.1 (by rw[hi];exact Nat.beq_refl id))
  .rw[aG hi]
   refine he i l' w' ha (hk.2 ?_);cases hb:Nat.beq i id with
   |false=>rfl
   |true=>exact(hi (oz hb)).elim
 |.loop c,p,C,l,w,Q,h,hn,he,hr,hp=>by
  simp only[vc]at h;split at h
  .exact h.elim
  .rename_i sp _
   obtain⟨I,m,h0,h1⟩:=h;refine wp_loop (λa w'=>∃l' vs,a=act l' ds/\cu (written c) l l'/\Reads l' sp vs/\dQ.app (ga sp) I vs λq=>q w') (Nx sp m) ?_ ?_
   .obtain⟨vs,hrd,hi⟩:=D7 h0
    exact⟨l,vs,rfl,cu.refl _ _,hrd,hi⟩
   .rintro a w' ⟨l',vs,rfl,ha,hrd,hi⟩
    have h3:=dQ.uI hi h1;have h4:=GC ha hrd λus=>h3 us w' hi;refine ny c (2*p) _ l' w' _ h4 (λl2 w2 hb hk=>?_) (λi l2 w2 hb hk=>he i l2 w2 (ha.trans hb (λ_ h=>h) (λ_ h=>h)) hk) (λl2 w2 hk=>hr l2 w2 hk) (λl2 ch w2 hb hk=>hp l2 ch w2 (ha.trans hb (λ_ h=>h) (λ_ h=>h)) hk);obtain⟨vs',IA,hi',hm⟩:=D7 hk;refine⟨⟨l2,vs',rfl,ha.trans hb (λ_ h=>h) (λ_ h=>h),IA,hi'⟩,?_⟩;obtain⟨m1,bW,e1⟩:=L_ (a:=act l2 ds) (w:=w2) IA hm;obtain⟨m0,hm0,e0⟩:=L_ (a:=act l' ds) (w:=w') hrd bW;rw[e1,e0];exact hm0
 |.exit i,p,C,l,w,Q,h,_,he,_,_=>wp_exit (he i l w (cu.refl _ _) h)
 |.ret,p,C,l,w,Q,h,_,_,hr,_=>wp_ret (hr l w h)
 |.label _,_,_,_,_,_,h,_,_,_,_=>h.elim
 |.goto _,_,_,_,_,_,h,_,_,_,_=>h.elim
 |.scope _,_,_,_,_,_,h,_,_,_,_=>h.elim
 |.rangeFunc ..,_,_,_,_,_,h,_,_,_,_=>h.elim
 |.refuse _,_,_,_,_,_,h,_,_,_,_=>h.elim
def aIB(P:Program)(w:World):List ResultVar->Fr->(List Value->Prop)->Prop
 |[],_,K=>K []
 |.tmp t::r,l,K=>tw l t λv=>aIB P w r l λvs=>K (v::vs)
 |.cell a t::r,l,K=>tw l a λv=>yZ v λa=>MX P t a (λa v=>w.cell? a=some v) λv=>aIB P w r l λvs=>K (v::vs)
def xm:List Value->Value
 |[v]=>v
 |vs=>.tuple ⟨vs⟩
def kL(P:Program)(rs:List ResultVar)(R:Ending->World->Prop):CF where
 normal:=λl w=>aIB P w rs l λvs=>R (.returned (xm vs)) w
 exit:=λ_ _ _=>False
 ret:=λl w=>aIB P w rs l λvs=>R (.returned (xm vs)) w
 panic:=λc w=>R (.panicked c) w
def aJC(tmps:Array Value):ResultVar->Sem Value
 |.tmp t=>pure (tmps.getD t undef)
 |.cell a t=>do loadVar t (<-asAddr (tmps.getD a undef))
def atY{P:Program}{w:World}{l:Fr}{ds:List Deferred}{rs:List ResultVar}:∀{K:List Value->Prop},aIB P w rs l K->
  ∃vs,(rs.mapM (aJC (act l ds).tmps)).run P w=.ok vs w/\K vs:=by
 induction rs with
 |nil=>intro K h;exact⟨[],rfl,h⟩
 |cons r rs ih=>
  intro K h;cases r with
  |tmp t=>
   obtain⟨v,hv,h⟩:=yx h;obtain⟨vs,h1,h2⟩:=ih h;refine⟨v::vs,?_,h2⟩;have hg:(act l ds).tmps.getD t undef=v:=by simp[act,hv]
   simp only[yf,Sem.run_bind,aJC,hg,Sem.run_pure,Result.andThen_ok,h1]
  |cell a t=>
   obtain⟨v,hv,h⟩:=yx h;obtain⟨ad,rfl,h3⟩:=Ch h;obtain⟨u,h4,hl⟩:=abH h3;obtain⟨vs,h1,h2⟩:=ih h4;refine⟨u::vs,?_,h2⟩;have hg:(act l ds).tmps.getD a undef=.pointer (some ad):=by simp[act,hv]
   simp only[yf,Sem.run_bind,aJC,hg,asAddr,Sem.run_pure,Result.andThen_ok,hl w (λ_ _ h=>h),h1]
def o7{P:Program}{fn:Func}{w:World}{l:Fr}{ds:List Deferred}{K:List Value->Prop}(h:aIB P w fn.results.toList l K):
  ∃vs,(results fn (act l ds).tmps).run P w=.ok (xm vs) w/\K vs:=by
 obtain⟨vs,h1,h2⟩:=atY (ds:=ds) h;refine⟨vs,?_,h2⟩;have e:results fn (act l ds).tmps=(do
   let vs<-fn.results.mapM (aJC (act l ds).tmps)
   pure (if h:vs.size=1 then vs[0]else .tuple vs)):=by
  unfold results;congr 2
 rw[e,Sem.run_bind,J8];simp only[Sem.run_map,h1,Result.andThen_ok,Sem.run_pure]
 match vs with
 |[]=>rfl
 |[v]=>rfl
 |v::u::r=>simp[xm]
def nI(n:Nat):List Value->Fr
 |[]=>List.replicate n undef
 |v::r=>v::nI (n-1) r
def Cb(args:List Value):∀n,nI n args=args++List.replicate (n-args.length) undef:=by
 induction args with
 |nil=>intro n;simp[nI]
 |cons v r ih=>intro n;simp only[nI,ih,BX,bf];congr 3;omega
def Ao{P:Program}{f:FuncId}{fn:Func}{c:Code}{args:List Value}{w:World}{R:Ending->World->Prop}(pl:nX)(hf:P.funcs[f]?=some fn)(hb:fn.body=some c)
  (h:vc P pl c 1 (kL P fn.results.toList R) (nI fn.ntmps args) w):Calls P f ⟨args⟩ w R:=by
 refine calls_of_wp hf hb ?_;have e:(Array.mk args)++Array.replicate (fn.ntmps-(Array.mk args).size) undef=⟨nI fn.ntmps args⟩:=by apply jF;simp[Cb]
 rw[e];refine ny (ds:=[]) c 1 _ _ w _ h (λl' w' _ hk=>?_) (λi l' w' _ hk=>hk.elim) (λl' w' hk=>?_) (λl' ch w' _ hk=>⟨rfl,hk⟩)
 .obtain⟨vs,h1,h2⟩:=o7 (ds:=[]) hk
  exact⟨rfl,_,h1,h2⟩
 .obtain⟨vs,h1,h2⟩:=o7 (ds:=[]) hk
  exact⟨rfl,_,h1,h2⟩
end Go.Proofs.YtihaaoehhgmphaaGreatDoor.Vc
namespace Go.Proofs.YtihaaoehhgmphaaGreatDoor
open IntKind Go.RowKit Vc
def wrap_i64{n:Int}(h0: -9223372036854775808<=n)(h1:n<9223372036854775808):i64.wrap n=n:=by simp only[IntKind.wrap,IntKind.signed,IntKind.bits];simp;omega
def wI{a b:Int}(h:a=b:=by omega)(h0: -9223372036854775808<=a:=by omega)(h1:a<9223372036854775808:=by omega):i64.wrap a=b:=(wrap_i64 h0 h1).trans h
def wrap_u64{n:Int}(h0:0<=n)(h1:n<18446744073709551616):u64.wrap n=n:=by simp only[IntKind.wrap,IntKind.signed,IntKind.bits];simp;omega
def bit(m:Int)(i:Nat):Bool:=m.toNat.testBit i
def aoQ{a b:Int}(ha0:0<=a)(ha:a<18446744073709551616)(hb0:0<=b)(hb:b<18446744073709551616):bits .and .u64 a b=((a.toNat&&&b.toNat:Nat):Int):=by
 have h1:(BitVec.ofInt u64.bits a).toNat=a.toNat:=by simp[Yz,IntKind.bits];omega
 have h2:(BitVec.ofInt u64.bits b).toNat=b.toNat:=by simp[Yz,IntKind.bits];omega
 have h3:a.toNat&&&b.toNat<=a.toNat:=Nat.and_le_left;simp only[bits,YP,h1,h2];exact wrap_u64 (by omega) (by omega)
def aHa(g o i:Nat):(Addr.mk g o none).add i=⟨g,o+i,none⟩:=by
 unfold Addr.add;split;·next h=>subst h;rfl
 ·rfl
def Row.wr{w:World}{g:Nat}{t:TypeId}{cs:Array Value}(h:Row w g t cs)(i:Nat)(hi:i<cs.size):Wr w ⟨g,i,none⟩:=
 ⟨by rw[h.cell];simp[hi],h.frozen hi⟩
def Row.fW{w:World}{g:Nat}{t:TypeId}{l:List Value}(h:Row w g t ⟨l⟩)(i:Nat)(u:Value):Row (w.setCell ⟨g,i,none⟩ u) g t ⟨l.set i u⟩:=by
 have:=h.set i u;have e:(Array.mk l).setIfInBounds i u=⟨l.set i u⟩:=by apply jF;simp
 rwa[e]at this
def Cw(F:Nat->UInt8)(N:Nat):List Value:=(List.range N).map λi=>.int .u8 (F i).toNat
def aJD(F:Nat->UInt8)(o N:Nat):List UInt8:=(List.range N).map λj=>F (o+j)
@[simp]theorem aFP(F:Nat->UInt8)(N:Nat):(Cw F N).length=N:=by simp[Cw]
@[simp]theorem aFR(F:Nat->UInt8)(o N:Nat):(aJD F o N).length=N:=by simp[aJD]
def aaL{F:Nat->UInt8}{N i:Nat}(h:i<N):(Cw F N)[i]?=some (.int .u8 (F i).toNat):=by simp[Cw,h]
def atZ{F:Nat->UInt8}{o N i:Nat}(h:i<N):(aJD F o N)[i]?=some (F (o+i)):=by simp[aJD,h]
def aqC{w:World}{g:Nat}{t:TypeId}{F:Nat->UInt8}{N:Nat}(h:Row w g t ⟨Cw F N⟩){o M:Nat}(hM:o+M<=N):
  s_ (λa v=>w.cell? a=some v) (some ⟨g,o,none⟩) M (aJD F o M):=by
 refine⟨by simp,λ_=>⟨_,rfl,λj b hb=>?_⟩⟩;have hj:j<M:=by have:=(iU.1 hb).1;simpa using this
 rw[atZ hj]at hb;obtain rfl:=bU hb;rw[aHa];exact h.dy (by simpa using aaL (by omega))
def bc(l:List UInt8):List Value:=l.map λb=>.int .u8 b.toNat
@[simp]theorem GL(l:List UInt8):(bc l).length=l.length:=by simp[bc]
def aeN(l:List UInt8)(i:Nat)(b:UInt8):(bc l).set i (.int .u8 (b.toNat:Int))=bc (l.set i b):=by simp[bc,List.map_set]
def GM(l m:List UInt8):bc (l++m)=bc l++bc m:=by simp[bc]
def HF{l:List UInt8}{i:Nat}{b:UInt8}(h:l[i]?=some b):(bc l)[i]?=some (.int .u8 (b.toNat:Int)):=by simp[bc,h]
def aKN(l:List UInt8):∀v∈bc l,v.oneCell'=true:=by intro v hv;simp only[bc,dY]at hv;obtain⟨x,_,rfl⟩:=hv;rfl
def Row.bytes{w:World}{g:Nat}{t:TypeId}{l:List UInt8}(h:Row w g t ⟨bc l⟩){n:Nat}(hn:l.length=n):s_ (λa v=>w.cell? a=some v) (some ⟨g,0,none⟩) n l:=by refine⟨hn,λ_=>⟨_,rfl,λj b hb=>?_⟩⟩;rw[aHa,cQ];exact h.dy (by simpa using HF hb)
def aS.Ax{w:World}{B:Nat}{e:TypeId}{size:Nat}{v:Value}{n:Nat}{xs:List Value}(h:aS w B e size v n xs)(hn:0<n):∃g cap,v=.slice (some ⟨g,0,none⟩) n cap/\B<=g/\g<w.heap.size/\n<=cap/\∀j u,xs[j]?=some u->w.cell? ⟨g,j,none⟩=some u:=by obtain⟨g,cap,cur,rfl,hb,hr,hc,_,_⟩:=h.row hn;exact⟨g,cap,rfl,hb,hr.lt,hc,h.cells rfl⟩
def aS.bytes{w:World}{B:Nat}{e:TypeId}{p:Option Addr}{n c:Nat}{l:List UInt8}(h:aS w B e 1 (.slice p n c) n (bc l)):s_ (λa v=>w.cell? a=some v) p n l:=by have hl:=h.length;rw[GL]at hl;refine⟨by omega,λhn=>?_⟩;obtain⟨g,cap,he,_,_,_,hx⟩:=h.Ax hn;injection he with e1 e2 e3;subst e1;refine⟨_,rfl,λj b hb=>?_⟩;rw[aHa,cQ];exact hx j _ (HF hb)
def one_one{x:Value}(h:x.oneCell'=true):∀u∈[x],u.oneCell'=true:=by simpa using h
def avC(w:World)(t:TypeId)(x:Value):0<1->∃a:Addr,(some (Addr.mk w.heap.size 0 none))=some a/\∀(j:Nat) (u:Value),[x][j]?=some u->(w.alloc (.cells #[x] t)).cell? (a.add j)=some u:=by
 refine λ_=>⟨_,rfl,λj u hu=>?_⟩;have hj:j=0:=by have:=(iU.1 hu).1;simpa using this
 subst hj;obtain rfl:=bU hu;exact(Row.new w t _).dy rfl
section
variable{w w2 w7:World}{B L L':Nat}{e:TypeId}{v v':Value}{xs ys:List Value}{size:Nat}{row:Option Nat}
def aS.rS{p p':Option Addr}{n n' c c':Nat}(ho:aS w2 B e size (.slice p n c) L xs)(hB:B<=w2.heap.size){o:Obj}(zj:aS w7 0 e size (.slice p' n' c') L' ys)
  (hblk:oO p p' n' c c' (w2.alloc o).heap.size):aS w7 B e size (.slice p' n' c') L' ys:=by
 refine zj.base λk hk=>?_;rcases hblk.own (n:=n)with h|h
 .exact(ho.lt k (by rw[<-h,hk])).1
 .rw[hk]at h
  obtain rfl:=bU h;simp;omega
def Mod.rS{S:Nat->Prop}(hm:Mod S w w2)(ho:aS w2 B e size v L xs)(Og:w.heap.size<=B){o:Obj}(hg:(w2.alloc o).grownBy w7 v.ownBlock):Mod S w w7:=
 (hm.alloc o).grown hg λg hk=>.inr (kJ Og (ho.lt g hk).1)
def Row.rS{g:Nat}{t:TypeId}{cs:Array Value}(h:Row w2 g t cs)(ho:aS w2 B e size v L xs)(hgB:g<B){o:Obj}(hg:(w2.alloc o).grownBy w7 v.ownBlock):Row w7 g t cs:=
 (h.alloc o).grown hg λhk=>by have:=(ho.lt g hk.symm).1;omega
end
end Go.Proofs.YtihaaoehhgmphaaGreatDoor
namespace Go.Proofs.YtihaaoehhgmphaaGreatDoor
open IntKind
abbrev ag:=List UInt8
end Go.Proofs.YtihaaoehhgmphaaGreatDoor
