/- Texts of one proof, one behind the other. Conditions: as each theorem names them. -/
import Derived.WalkKit
import Derived.Laws.CopyOwn
import Derived.Laws.StructEq
import Derived.WalkLawsBesides
import Derived.KernelRfl
import Derived.Lib.Builder
import Derived.Lib.UnsafeStr
import Derived.Lib.IfaceEq
import Derived.Stop.IfaceNil
import Derived.LaidEql
import Derived.Lib.ConvBytes
import Derived.Maps.AppendAt
import Derived.Deep.Quiet
import Derived.StillTail
import Derived.Lib.OthersKept
import Derived.Laws.Externs
import Derived.Laws.IdiomRangeMap
import Derived.MapKept
import Derived.OrdersHeld
set_option linter.all false
namespace Go.Proofs
def aL:=@if_neg
def aR:=@if_pos
def aT:=@of_decide_eq_true
def gK:=@congrArg
def aW:=@Nat.le_refl
def a_:=@of_decide_eq_false
def bf:=@List.length_cons
def bM:=@Option.some.inj
def bT:=@Int.toNat_natCast
def cm:=@List.length_nil
def aIa:=@List.length_append
def cE:=@Nat.zero_add
def dx:=@Nat.zero_le
def eo:=@List.mem_map
def eC:=@Bool.and_eq_true
def eH:=@List.length_take
def eX:=@Nat.mul_one
def aIl:=@decide_eq_false
def fW:=@List.map_cons
def fV:=@decide_eq_true
def gJ:=@List.getElem?_eq_getElem
def iR:=@if_false
def iQ:=@List.mem_cons
def jj:=@List.getElem?_eq_some_iff
def jx:=@List.length_drop
def jL:=@Array.ext'
def aIB:=@List.length_map
def aIA:=@List.mem_singleton
def kP:=@Bool.false_eq_true
def kQ:=@decide_eq_true_eq
def lH:=@Nat.le_trans
def mK:=@Nat.lt_of_lt_of_le
def mH:=@List.eq_nil_of_length_eq_zero
def mL:=@List.append_assoc
def mI:=@List.drop_eq_getElem_cons
def mJ:=@List.length_pos_iff
def aIL:=@List.mem_append
def nr:=@Nat.lt_succ_self
def aIT:=@Nat.eq_of_beq_eq_true
def ou:=@List.getElem_mem
def aIV:=@List.sum_cons
def oP:=@Array.getElem?_eq_some_iff
def oQ:=@List.take_append_drop
def oV:=@if_true
def oS:=@List.flatMap_cons
def oR:=@Array.mem_of_getElem?
def oT:=@List.take_length
def pK:=@Nat.eq_zero_or_pos
def pJ:=@List.getElem?_set_ne
def aJc:=@List.ext_getElem?
def aJd:=@Nat.lt_or_ge
def ql:=@List.all_eq_true
def qZ:=@List.map_nil
def qV:=@List.getElem?_set_self
def qX:=@List.map_append
def qW:=@decide_eq_decide
def r_:=@Bool.eq_iff_iff
def aJx:=@List.mem_append_left
def se:=@Prod.mk.injEq
def th:=@List.getElem?_eq_none
def tq:=@List.mem_of_getElem?
def tj:=@List.mem_append_right
def tu:=@List.suffix_cons
def vQ:=@List.foldl_cons
def vM:=@List.getElem?_map
def vK:=@List.take_of_length_le
def vT:=@Bool.false_or
def vJ:=@List.getElem?_append_left
def vS:=@List.mem_range
def vO:=@List.not_mem_nil
def vZ:=@or_false
def vR:=@Nat.min_eq_left
def vP:=@List.drop_length
def vU:=@Nat.succ_pos
def xz:=@List.size_toArray
def aKt:=@List.mapM_cons
def xA:=@List.map_toArray
def aKs:=@List.exists_cons_of_ne_nil
def xB:=@List.suffix_refl
def zk:=@List.getElem?_take
def zl:=@List.append_nil
def zm:=@List.nil_append
def zy:=@Nat.add_mul
def zg:=@List.getElem?_append_right
def aKS:=@Ne.symm
def aKK:=@Prod.mk.inj
def zq:=@List.all_cons
def zu:=@Bool.true_and
def zh:=@List.getD_eq_getElem?_getD
def ze:=@List.take_succ_eq_append_getElem
def Bl:=@List.getElem?_drop
def Be:=@List.getElem?_toArray
def aLa:=@Nat.add_sub_cancel_left
def Bi:=@List.drop_succ_cons
def Bm:=@Bool.or_false
def Bq:=@Nat.le_succ
def aLf:=@decide_eq_false_iff_not
def Df:=@List.length_set
def Dd:=@List.getElem?_set
def Dl:=@Nat.zero_mul
def C4:=@List.set_append_right
def Dj:=@Nat.lt_irrefl
def Dm:=@List.map_map
def Du:=@beq_iff_eq
def Dn:=@Nat.le_of_lt
def C8:=@List.contains_cons
def Dh:=@List.drop_drop
def Fk:=@Array.getElem?_modify
def FO:=@Nat.add_zero
def FN:=@Nat.add_assoc
def FE:=@Option.map_some
def FZ:=@Nat.mod_lt
def Fg:=@Array.getD_eq_getD_getElem?
def FB:=@List.cons_append
def Fz:=@List.take_add_one
def FF:=@UInt8.toNat_inj
def Fq:=@List.filter_eq_self
def FP:=@Nat.ne_of_lt
def Fs:=@List.mergeSort_perm
def aLj:=@List.takeWhile_cons
def Fj:=@Decidable.byContradiction
def Fv:=@decide_eq_true_iff
def FA:=@List.contains_nil
def JK:=@List.getElem?_append
def JP:=@Array.length_toList
def JX:=@Bool.not_eq_true'
def Jy:=@Array.mapM_eq_mapM_toList
def J3:=@Nat.le_of_not_lt
def J4:=@List.isEmpty_iff
def JC:=@Array.getElem?_eq_none
def J9:=@List.find?_some
def Jz:=@List.mem_of_find?_eq_some
def JY:=@Option.some.injEq
def Ku:=@Nat.sub_self
def JZ:=@Array.toList_push
def JI:=@Array.getElem?_toList
def J0:=@List.filter_congr
def Kv:=@Nat.mul_comm
def Ki:=@List.drop_zero
def J5:=@Nat.le_add_right
def Kw:=@UInt8.not_lt
def J6:=@Option.getD_some
def JQ:=@List.replicate_succ
def aLm:=@List.sum_nil
def Kj:=@Bool.and_false
def JJ:=@List.count_cons_of_ne
def OX:=@Bool.and_eq_false_iff
def Pv:=@List.getElem?_cons
def OC:=@List.setIfInBounds_toArray
def OG:=@List.extract_eq_take_drop
def OY:=@Nat.le_of_ble_eq_true
def Qv:=@decide_false
def P6:=@Option.map_none
def O5:=@Nat.mul_le_mul_right
def P7:=@Bool.or_eq_true
def OJ:=@Array.setIfInBounds_comm
def PT:=@List.mem_flatMap
def Pw:=@List.find?_eq_none
def OK:=@Array.getElem?_replicate
def Qw:=@List.map_set
def PF:=@List.nodup_append
def P8:=@List.nodup_cons
def PU:=@List.filter_cons
def O6:=@List.mem_cons_of_mem
def Qx:=@Nat.pow_succ
def Px:=@UInt8.toNat_ofNat'
def Qy:=@Decidable.em
def O7:=@Nat.pow_le_pow_right
def Py:=@Nat.add_sub_cancel
def Pk:=@List.dropWhile_cons
def OD:=@List.isPrefixOf_iff_prefix
def OE:=@Int.fdiv_eq_ediv_of_nonneg
def Qz:=@Nat.ne_of_gt
def O8:=@List.mem_of_mem_take
def P9:=@List.mem_filter
def OZ:=@List.length_replicate
def Qd:=@Bool.false_and
def Qe:=@List.take_take
def QA:=@Nat.le_of_eq
def P_:=@Int.one_ne_zero
def Qj:=@Bool.or_assoc
def PG:=@UInt8.ofNat_toNat
def PV:=@List.all_reverse
def O9:=@List.count_le_length
def PI:=@List.count_append
def ON:=@Int.eq_ofNat_of_zero_le
def QB:=@List.map_id'
def OO:=@List.getElem?_cons_zero
def Xq:=@Array.toList_setIfInBounds
def XA:=@Option.map_eq_some_iff
def aLZ:=@not_true_eq_false
def X_:=@Array.size_append
def XL:=@Array.toList_append
def XU:=@Array.empty_append
def Xm:=@List.take_append_of_le_length
def XV:=@List.set_cons_zero
def Xj:=@Array.getElem?_setIfInBounds_ne
def XW:=@Nat.pos_of_ne_zero
def XB:=@List.takeWhile_sublist
def XJ:=@List.sizeOf_lt_of_mem
def Ya:=@UInt8.le_antisymm
def XX:=@BitVec.toNat_ofNat
def Yf:=@Int.natCast_ediv
def Xt:=@Nat.shiftRight_eq_div_pow
def Yg:=@Nat.min_eq_right
def Yh:=@Nat.div_eq_of_lt
def Yi:=@Nat.mul_mod_left
def Xv:=@BitVec.eq_of_getLsbD_eq
def XY:=@BitVec.getLsbD_xor
def XZ:=@BitVec.getLsbD_and
def X0:=@List.set_cons_succ
def Xr:=@Int.tmod_eq_emod_of_nonneg
def Xw:=@List.getElem?_replicate
def XM:=@List.flatMap_append
def XN:=@List.take_succ_cons
def Xx:=@List.length_eq_zero_iff
def Yj:=@Option.bind_some
def XC:=@List.drop_of_length_le
def XO:=@Nat.mul_le_mul_left
def Xu:=@List.getElem?_take_of_lt
def X3:=@List.filter_append
def XP:=@beq_eq_false_iff_ne
def XQ:=@List.length_reverse
def Yb:=@List.reverse_perm
def Yk:=@List.cons_ne_nil
def Yl:=@List.getElem_map
end Go.Proofs
namespace Go.Proofs.YtihaaoehhgmphaaGreatDoor
open IntKind Go.RowKit
def HY(cs:Array Value)(fz:Nat×Nat):Prop:=fz.2=0\/cs.size<=fz.1
def Row(w:World)(g:Nat)(t:TypeId)(cs:Array Value):Prop:=∃fz,w.heap[g]?=some (.cells cs t fz)/\HY cs fz
structure Mod(S:Nat->Prop)(w w':World):Prop where
 os:w'.os=w.os
 tape:w'.tape=w.tape
 output:w'.output=w.output
 size:w.heap.size<=w'.heap.size
 block:∀k,k<w.heap.size->¬S k->w'.heap[k]?=w.heap[k]?
section
variable{w w':World}{g:Nat}{t:TypeId}{cs:Array Value}{S:Nat->Prop}
def Row.Vg(h:w.heap[g]?=some (.cells cs t (0,0))):Row w g t cs:=⟨_,h,.inl rfl⟩
def Row.lt(h:Row w g t cs):g<w.heap.size:=by obtain⟨fz,h,_⟩:=h;exact(oP.1 h).1
def Row.cell(h:Row w g t cs)(i:Nat):w.cell? ⟨g,i,none⟩=cs[i]?:=by obtain⟨fz,h,_⟩:=h;exact cell_of_row w g i cs t fz h
def Row.dY(h:Row w g t cs){i:Nat}{v:Value}(hv:cs[i]?=some v):w.cell? ⟨g,i,none⟩=some v:=(h.cell i).trans hv
def Row.frozen(h:Row w g t cs){i:Nat}(hi:i<cs.size):w.frozen? ⟨g,i,none⟩=false:=by obtain⟨⟨lo,hi'⟩,h,hf⟩:=h;simp only[World.frozen?,h,OX,aLf];rcases hf with hf|hf<;>simp only at hf<;>omega
def Row.same(h:Row w g t cs)(hb:w'.heap[g]?=w.heap[g]?):Row w' g t cs:=by obtain⟨fz,h,hf⟩:=h;exact⟨fz,hb.trans h,hf⟩
def Row.new(w:World)(t:TypeId)(cs:Array Value):Row (w.alloc (.cells cs t)) w.heap.size t cs:=Row.Vg (heap_alloc_new w _)
def Row.drew(h:Row w g t cs):Row w.drew g t cs:=h
def Row.alloc(h:Row w g t cs)(o:Obj):Row (w.alloc o) g t cs:=h.same (Below.heap_alloc w o g h.lt)
def Row.set(h:Row w g t cs)(i:Nat)(u:Value):Row (w.setCell ⟨g,i,none⟩ u) g t (cs.setIfInBounds i u):=by obtain⟨fz,h,hf⟩:=h;refine⟨fz,?_,by simpa[HY]using hf⟩;simp[World.setCell,Fk,h]
def Row.far(h:Row w g t cs){p:Addr}(hp:g≠p.block)(u:Value):Row (w.setCell p u) g t cs:=h.same (Below.heap_setCell w p u g hp)
def Row.setRow(h:Row w g t cs)(cs':Array Value)(hs:cs'.size=cs.size:=by simp):Row (w.setRow g cs') g t cs':=by obtain⟨fz,h,hf⟩:=h;exact⟨fz,setRow_heap w g cs cs' t _ h,by simpa[HY,hs]using hf⟩
def Row.Ro(h:Row w g t cs){g':Nat}(hp:g≠g')(cs':Array Value):Row (w.setRow g' cs') g t cs:=h.same (setRow_other w g' g cs' hp)
def Row.below{B:Nat}(h:Row w g t cs)(hb:Below B w w')(hg:g<B):Row w' g t cs:=h.same (hb.block g hg)
def Row.mod(h:Row w g t cs)(hb:Mod S w w')(hg:¬S g):Row w' g t cs:=h.same (hb.block g h.lt hg)
def Row.grown{row:Option Nat}(h:Row w g t cs)(hb:w.grownBy w' row)(hg:some g≠row):Row w' g t cs:=h.same (hb.block g h.lt hg)
def Row.ne{g':Nat}{t':TypeId}{cs':Array Value}(h:Row w g t cs)(h':Row w g' t' cs')(hne:t≠t'):g≠g':=by rintro rfl;obtain⟨fz,h,_⟩:=h;obtain⟨fz',h',_⟩:=h';rw[h]at h';injection h' with h';injection h' with _ ht;exact hne ht
def Mod.refl(S:Nat->Prop)(w:World):Mod S w w:=⟨rfl,rfl,rfl,aW _,λ_ _ _=>rfl⟩
def Mod.trans{a b c:World}{S T U:Nat->Prop}(h:Mod S a b)(k:Mod T b c)(hS:∀i,S i->U i)(hT:∀i,i<a.heap.size->T i->U i):Mod U a c:=
 ⟨k.os.trans h.os,k.tape.trans h.tape,k.output.trans h.output,lH h.size k.size,
  λi hi hn=>(k.block i (mK hi h.size) (λe=>hn (hT i hi e))).trans (h.block i hi (λe=>hn (hS i e)))⟩
def Mod.weaken{a b:World}{S U:Nat->Prop}(h:Mod S a b)(hS:∀i,S i->U i):Mod U a b:=
 ⟨h.os,h.tape,h.output,h.size,λi hi hn=>h.block i hi (λe=>hn (hS i e))⟩
def Mod.drew{a b:World}(h:Mod S a b):Mod S a b.drew:=⟨h.os,h.tape,h.output,h.size,h.block⟩
def Mod.alloc{a b:World}(h:Mod S a b)(o:Obj):Mod S a (b.alloc o):=
 ⟨h.os,h.tape,h.output,lH h.size (by simp),λi hi hn=>(Below.heap_alloc b o i (mK hi h.size)).trans (h.block i hi hn)⟩
def Mod.setCell{a b:World}(h:Mod S a b){p:Addr}(hp:S p.block\/a.heap.size<=p.block)(u:Value):Mod S a (b.setCell p u):=
 ⟨h.os,h.tape,h.output,by simpa[World.setCell]using h.size,λi hi hn=>(Below.heap_setCell b p u i (by
  rintro rfl;rcases hp with hp|hp
  .exact hn hp
  .omega)).trans (h.block i hi hn)⟩
def Mod.setRow{a b:World}(h:Mod S a b){g:Nat}(hp:S g\/a.heap.size<=g)(cs:Array Value):Mod S a (b.setRow g cs):=
 ⟨h.os,h.tape,h.output,by simpa using h.size,λi hi hn=>(setRow_other b g i cs (by
  rintro rfl;rcases hp with hp|hp
  .exact hn hp
  .omega)).trans (h.block i hi hn)⟩
def Mod.grown{a b c:World}(h:Mod S a b){row:Option Nat}(hg:b.grownBy c row)(hr:∀g,row=some g->S g\/a.heap.size<=g):Mod S a c:=
 ⟨hg.os.trans h.os,hg.tape.trans h.tape,hg.output.trans h.output,lH h.size hg.size,
  λi hi hn=>(hg.block i (mK hi h.size) (λe=>by
   rcases hr i e.symm with hp|hp
   .exact hn hp
   .omega)).trans (h.block i hi hn)⟩
def Mod.below{a b:World}(h:Mod S a b){B:Nat}(hB:B<=a.heap.size)(hS:∀i,S i->B<=i):Below B a b:=
 ⟨h.os,h.tape,h.output,h.size,λk hk=>h.block k (by omega) (λe=>by have:=hS k e;omega)⟩
def Mod.Sa{a b:World}(h:Below a.heap.size a b):Mod S a b:=⟨h.os,h.tape,h.output,h.size,λk hk _=>h.block k hk⟩
end
def aV(w:World)(B:Nat)(e:TypeId)(size:Nat)(v:Value)(n:Nat)(xs:List Value):Prop:=
 xs.length=n*size/\
 ((v=.slice none 0 0/\n=0)\/
  ∃g cap cur,v=.slice (some ⟨g,0,none⟩) n cap/\B<=g/\Row w g e cur/\n<=cap/\cap<=maxLen/\cur.size=cap*size/\cur.toList.take (n*size)=xs)
section
variable{w w':World}{B B':Nat}{e:TypeId}{size:Nat}{v:Value}{n:Nat}{xs:List Value}
def aV.nil(w:World)(B:Nat)(e:TypeId)(size:Nat):aV w B e size (.slice none 0 0) 0 []:=⟨by simp,.inl ⟨rfl,rfl⟩⟩
def aV.of(h:w.ownsRow B e size v n xs):aV w B e size v n xs:=by
 obtain⟨h1,h2|⟨g,cap,cur,rfl,h3,h4,h5⟩⟩:=h
 .exact⟨h1,.inl h2⟩
 .exact⟨h1,.inr ⟨g,cap,cur,rfl,h3,.Vg h4,h5⟩⟩
def aV.lt(h:aV w B e size v n xs):∀k,v.ownBlock=some k->B<=k/\k<w.heap.size:=by
 intro k hk;rcases h.2 with⟨rfl,_⟩|⟨g,cap,cur,rfl,hb,hg,_⟩
 .simp[Value.ownBlock]at hk
 .simp[Value.ownBlock]at hk
  subst hk;exact⟨hb,hg.lt⟩
def aV.base(h:aV w B e size v n xs)(hb:∀k,v.ownBlock=some k->B'<=k):aV w B' e size v n xs:=by
 obtain⟨h1,h2|⟨g,cap,cur,rfl,_,h3⟩⟩:=h
 .exact⟨h1,.inl h2⟩
 .exact⟨h1,.inr ⟨g,cap,cur,rfl,hb g rfl,h3⟩⟩
def aV.B1(h:aV w B e size v n xs):aV w 0 e size v n xs:=h.base (λ_ _=>dx _)
def aV.block(h:aV w B e size v n xs)(hb:∀k,v.ownBlock=some k->w'.heap[k]?=w.heap[k]?):aV w' B e size v n xs:=by
 obtain⟨h1,h2|⟨g,cap,cur,rfl,h0,h3,h4⟩⟩:=h
 .exact⟨h1,.inl h2⟩
 .exact⟨h1,.inr ⟨g,cap,cur,rfl,h0,h3.same (hb g rfl),h4⟩⟩
def aV.mod{T:Nat->Prop}(h:aV w B e size v n xs)(hm:Mod T w w')(hT:∀k,v.ownBlock=some k->¬T k):aV w' B e size v n xs:=
 h.block λk hk=>hm.block k (h.lt k hk).2 (hT k hk)
def aV.alloc(h:aV w B e size v n xs)(o:Obj):aV (w.alloc o) B e size v n xs:=
 h.block λk hk=>Below.heap_alloc w o k (h.lt k hk).2
def aV.drew(h:aV w B e size v n xs):aV w.drew B e size v n xs:=h
def aV.far(h:aV w B e size v n xs){p:Addr}(hp:v.ownBlock≠some p.block)(u:Value):aV (w.setCell p u) B e size v n xs:=
 h.block λk hk=>Below.heap_setCell w p u k (λe=>hp (by rw[hk,e]))
def aV.grown{row:Option Nat}(h:aV w B e size v n xs)(hg:w.grownBy w' row)(hne:∀k,v.ownBlock=some k->some k≠row):aV w' B e size v n xs:=
 h.block λk hk=>hg.block k (h.lt k hk).2 (hne k hk)
def aV.form(h:aV w B e size v n xs):∃p c,v=.slice p n c:=by
 rcases h.2 with⟨rfl,rfl⟩|⟨g,cap,cur,rfl,_⟩
 .exact⟨_,_,rfl⟩
 .exact⟨_,_,rfl⟩
def aV.row(h:aV w B e size v n xs)(hn:0<n):∃g cap cur,v=.slice (some ⟨g,0,none⟩) n cap/\B<=g/\Row w g e cur/\n<=cap/\cur.size=cap*size/\cur.toList.take (n*size)=xs:=by
 obtain⟨h1,h2|⟨g,cap,cur,rfl,h0,h3,h4,_,h6,h7⟩⟩:=h
 .omega
 .exact⟨g,cap,cur,rfl,h0,h3,h4,h6,h7⟩
def aV.typed(h:aV w B e size v n xs){k:Nat}(hk:v.ownBlock=some k):∃cur,Row w k e cur:=by
 obtain⟨h1,⟨rfl,_⟩|⟨g,cap,cur,rfl,h0,h3,_⟩⟩:=h
 .cases hk
 .obtain rfl:=bM hk
  exact⟨cur,h3⟩
def aV.cells(h:aV w B e size v n xs){g:Nat}(hg:v.ownBlock=some g):∀j u,xs[j]?=some u->w.cell? ⟨g,j,none⟩=some u:=by
 intro j u hu;rcases h.2 with⟨rfl,_⟩|⟨g',cap,cur,rfl,_,hgg,_,_,_,DZ⟩
 .simp[Value.ownBlock]at hg
 .simp[Value.ownBlock]at hg
  subst hg;rw[<-DZ,zk]at hu;split at hu
  .exact hgg.dY (by simpa using hu)
  .cases hu
def aV.length(h:aV w B e size v n xs):xs.length=n*size:=h.1
def aLn(P:Program)(g o:Nat)(t:TypeId):∀(vs:List Value) (i:Nat) (cur:Array Value) (w:World),Row w g t cur->o+i+vs.length<=cur.size->(∀v∈vs,v.oneCell'=true)->
  (storeCells ⟨g,o,none⟩ vs i).run P w=.ok () (w.setRow g (cur.toList.take (o+i)++vs++cur.toList.drop (o+i+vs.length)).toArray)
 |[],i,cur,w,hg,_,_=>by obtain⟨fz,hg,_⟩:=hg;simp only[storeCells,zl,cm,FO,oQ,Array.toArray_toList];rw[setRow_self w g cur t fz hg];rfl
 |v::rest,i,cur,w,hg,hl,h1=>by
  have hi:o+i<cur.size:=by simp at hl;omega
  have Ul:(⟨g,o,none⟩:Addr).add i=⟨g,o+i,none⟩:=by unfold Addr.add;split<;>simp_all
  have hcell:w.cell? ⟨g,o+i,none⟩=some cur[o+i]:=by rw[hg.cell];simp[hi]
  have ayN:=hg.frozen hi;have Cn:Row (w.setRow g (cur.setIfInBounds (o+i) v)) g t (cur.setIfInBounds (o+i) v):=hg.setRow _;obtain⟨fz,hg0,_⟩:=hg;have hst:(store ((⟨g,o,none⟩:Addr).add i) v).run P w=.ok () (w.setRow g (cur.setIfInBounds (o+i) v)):=by rw[Ul,run_store P w _ v _ (h1 v (by simp)),hcell];simp[ayN,setCell_eq_setRow w g (o+i) cur t fz v hg0]
  have ih:=aLn P g o t rest (i+1) (cur.setIfInBounds (o+i) v) (w.setRow g (cur.setIfInBounds (o+i) v)) Cn (by simp at hl⊢;omega) (λx hx=>h1 x (by simp[hx]));simp only[storeCells,Sem.run_bind,hst,Result.andThen_ok,ih,setRow_setRow];congr 3;simp only[Xq];apply aJc;intro j;simp only[JK,zk,Bl,eH,Df,aIa,Dd,bf,JP,Pv]
  grind
end
end Go.Proofs.YtihaaoehhgmphaaGreatDoor
namespace Go.Proofs.YtihaaoehhgmphaaGreatDoor.Vc
open IntKind Go.RowKit
abbrev S(l:List UInt8):ByteArray:=⟨⟨l⟩⟩
abbrev Fr:=List Value
def ak(c:Bool)(A B:Prop):Prop:=match c with
 |true=>A
 |false=>B
def aB{c:Bool}{A B:Prop}(ht:c=true->A)(hf:c=false->B):ak c A B:=by
 cases c
 .exact hf rfl
 .exact ht rfl
@[simp]theorem ar_(A B:Prop):ak true A B=A:=rfl
@[simp]theorem aqu(A B:Prop):ak false A B=B:=rfl
def aIs{c:Bool}{A B:Prop}:ak c A B↔(c=true->A)/\(c=false->B):=by cases c<;>simp[ak]
def az{α:Type}(p:Option α)(K:α->Prop):Prop:=match p with
 |some a=>K a
 |none=>False
@[simp]theorem Z4{α:Type}(a:α)(K:α->Prop):az (some a) K=K a:=rfl
@[simp]theorem aGc{α:Type}(K:α->Prop):az none K=False:=rfl
def aKT{α:Type}{p:Option α}{K:α->Prop}(h:az p K):∃a,p=some a/\K a:=by
 cases p with
 |none=>exact h.elim
 |some a=>exact⟨a,rfl,h⟩
inductive jc where
 |int(k:IntKind)
 |bool
 |str
 |ptr
 |slc
 |raw
 deriving DecidableEq
def G3:Value->jc
 |.int k _=>.int k
 |.bool _=>.bool
 |.string _=>.str
 |.pointer _=>.ptr
 |.slice _ _ _=>.slc
 |_=>.raw
def DP:jc->(Value->Prop)->Prop
 |.int k,K=>∃n:Int,K (.int k n)
 |.bool,K=>∃b:Bool,K (.bool b)
 |.str,K=>∃s:List UInt8,K (.string (S s))
 |.ptr,K=>∃p:Option Addr,K (.pointer p)
 |.slc,K=>∃(p:Option Addr) (n c:Nat),K (.slice p n c)
 |.raw,K=>∃v:Value,v.oneCell'=true/\K v
def Gp:List jc->(List Value->Prop)->Prop
 |[],K=>K []
 |x::r,K=>DP x λv=>Gp r λvs=>K (v::vs)
def GG:jc->(Value->Prop)->Prop
 |.int k,K=>∀n:Int,K (.int k n)
 |.bool,K=>∀b:Bool,K (.bool b)
 |.str,K=>∀s:List UInt8,K (.string (S s))
 |.ptr,K=>∀p:Option Addr,K (.pointer p)
 |.slc,K=>∀(p:Option Addr) (n c:Nat),K (.slice p n c)
 |.raw,K=>∀v:Value,K v
def La:List jc->(List Value->Prop)->Prop
 |[],K=>K []
 |x::r,K=>GG x λv=>La r λvs=>K (v::vs)
def KX{x:jc}{K:Value->Prop}(h:DP x K):∃v,v.oneCell'=true/\K v:=by
 cases x<;>simp only[DP]at h
 .obtain⟨n,h⟩:=h;exact⟨_,rfl,h⟩
 .obtain⟨n,h⟩:=h;exact⟨_,rfl,h⟩
 .obtain⟨n,h⟩:=h;exact⟨_,rfl,h⟩
 .obtain⟨n,h⟩:=h;exact⟨_,rfl,h⟩
 .obtain⟨p,n,c,h⟩:=h;exact⟨_,rfl,h⟩
 .exact h
def Zh{l:List jc}{K:List Value->Prop}(h:Gp l K):∃vs:List Value,vs.length=l.length/\(∀v∈vs,v.oneCell'=true)/\K vs:=by
 induction l generalizing K with
 |nil=>exact⟨[],rfl,by simp,h⟩
 |cons x r ih=>obtain⟨v,hv,h⟩:=KX h;obtain⟨vs,hl,h1,h⟩:=ih h;exact⟨v::vs,by simp[hl],by simpa using⟨hv,h1⟩,h⟩
def aIg:jc->Type->Type
 |.int _,X=>Int->X
 |.bool,X=>Bool->X
 |.str,X=>List UInt8->X
 |.ptr,X=>Option Addr->X
 |.slc,X=>Option Addr->Nat->Nat->X
 |.raw,X=>Value->X
def gM:List jc->Type->Type
 |[],X=>X
 |x::r,X=>aIg x (gM r X)
def aIg.app{X:Type}:(x:jc)->aIg x X->Value->(X->Prop)->Prop
 |.int k,f,.int k' n,K=>ak (decide (k=k')) (K (f n)) False
 |.bool,f,.bool b,K=>K (f b)
 |.str,f,.string ⟨⟨l⟩⟩,K=>K (f l)
 |.ptr,f,.pointer p,K=>K (f p)
 |.slc,f,.slice p n c,K=>K (f p n c)
 |.raw,f,v,K=>K (f v)
 |_,_,_,_=>False
def gM.app{X:Type}:(l:List jc)->gM l X->List Value->(X->Prop)->Prop
 |[],f,[],K=>K f
 |x::r,f,v::vs,K=>aIg.app x f v λg=>gM.app r g vs K
 |_,_,_,_=>False
def aIg.zQ{X:Type}{x:jc}{f:aIg x X}{v:Value}{K K':X->Prop}(h:aIg.app x f v K)(hk:∀y,K y->K' y):aIg.app x f v K':=by
 cases x<;>cases v<;>simp only[aIg.app]at h⊢<;>first|exact h.elim|exact hk _ h|skip
 rename_i k k' n;cases hd:decide (k=k')<;>simp[hd]at h⊢;exact hk _ h
def aIg.tU{X:Type}{x:jc}{f:aIg x X}{v:Value}{K:X->Prop}{Q:Value->Prop}(h:aIg.app x f v K)(hq:GG x Q):Q v:=by
 cases x<;>cases v<;>simp only[aIg.app]at h<;>first|exact h.elim|skip
 .rename_i k k' n
  cases hd:decide (k=k')<;>simp[hd]at h;obtain rfl:=aT hd;exact hq n
 all_goals first|exact hq _|exact hq _ _ _|skip
def gM.zQ{X:Type}{l:List jc}{f:gM l X}{vs:List Value}{K K':X->Prop}(h:gM.app l f vs K)(hk:∀y,K y->K' y):gM.app l f vs K':=by
 induction l generalizing vs with
 |nil=>cases vs with
  |nil=>exact hk _ h
  |cons v vs=>exact h.elim
 |cons x r ih=>cases vs with
  |nil=>exact h.elim
  |cons v vs=>exact aIg.zQ h λg hg=>ih hg
def gM.tU{X:Type}{l:List jc}{f:gM l X}{vs:List Value}{K:X->Prop}{Q:List Value->Prop}(h:gM.app l f vs K)(hq:La l Q):Q vs:=by
 induction l generalizing vs Q with
 |nil=>cases vs with
  |nil=>exact hq
  |cons v vs=>exact h.elim
 |cons x r ih=>cases vs with
  |nil=>exact h.elim
  |cons v vs=>
   have h1:=aIg.tU h hq;obtain⟨g,hg⟩:∃g,gM.app r g vs K:=by
    clear ih hq h1;cases x<;>cases v<;>simp only[gM.app,aIg.app]at h<;>first|exact h.elim|exact⟨_,h⟩|skip
    rename_i k k' n;cases hd:decide (k=k')<;>simp[hd]at h;exact⟨_,h⟩
   exact ih (Q:=λvs=>Q (v::vs)) hg h1
inductive Ty where
 |leaf(x:jc)
 |agg(l:List jc)
 |eZ(n:Nat)
def atP:Value->Ty
 |.agg ⟨cs⟩=>bif Nat.ble cs.length 16 then .agg (cs.map G3)else .eZ cs.length
 |v=>.leaf (G3 v)
def HZ(P:Program)(t:TypeId):Ty:=match P.info? t with
 |some i=>match i.zero with
  |some z=>atP z
  |none=>.eZ 0
 |none=>.eZ 0
def Mx:Ty->(Value->Prop)->Prop
 |.leaf x,K=>DP x K
 |.agg l,K=>Gp l λvs=>K (.agg ⟨vs⟩)
 |.eZ n,K=>∃cs:List Value,cs.length=n/\K (.agg ⟨cs⟩)
def Sb{x:Ty}{K:Value->Prop}(h:Mx x K):∃v,K v:=by
 cases x with
 |leaf x=>obtain⟨v,_,h⟩:=KX h;exact⟨v,h⟩
 |agg l=>obtain⟨vs,_,_,h⟩:=Zh h;exact⟨_,h⟩
 |eZ n=>obtain⟨cs,_,h⟩:=h;exact⟨_,h⟩
def TT(P:Program):List TypeId->(List Value->Prop)->Prop
 |[],K=>K []
 |t::r,K=>Mx (HZ P t) λv=>TT P r λvs=>K (v::vs)
def asa{P:Program}{l:List TypeId}{K:List Value->Prop}(h:TT P l K):∃vs,K vs:=by
 induction l generalizing K with
 |nil=>exact⟨[],h⟩
 |cons t r ih=>obtain⟨v,h⟩:=Sb h;obtain⟨vs,h⟩:=ih h;exact⟨v::vs,h⟩
def D0(P:Program)(t:TypeId)(K:Value->Prop):Prop:=match P.underlying t with
 |some (.tuple ⟨es⟩)=>TT P es λvs=>K (.tuple ⟨vs⟩)
 |_=>Mx (HZ P t) K
def Lb{P:Program}{t:TypeId}{K:Value->Prop}(h:D0 P t K):∃v,K v:=by
 unfold D0 at h;split at h
 .obtain⟨vs,h⟩:=asa h;exact⟨_,h⟩
 .exact Sb h
def iE:Ty->Type->Type
 |.leaf x,X=>aIg x X
 |.agg l,X=>gM l X
 |.eZ _,X=>List Value->X
def dZ:List Ty->Type->Type
 |[],X=>X
 |x::r,X=>iE x (dZ r X)
def iE.app{X:Type}:(x:Ty)->iE x X->Value->(X->Prop)->Prop
 |.leaf x,f,v,K=>aIg.app x f v K
 |.agg l,f,.agg ⟨vs⟩,K=>gM.app l f vs K
 |.eZ n,f,.agg ⟨cs⟩,K=>cs.length=n/\K (f cs)
 |_,_,_,_=>False
def dZ.app{X:Type}:(l:List Ty)->dZ l X->List Value->(X->Prop)->Prop
 |[],f,[],K=>K f
 |x::r,f,v::vs,K=>iE.app x f v λg=>dZ.app r g vs K
 |_,_,_,_=>False
def TU:Ty->(Value->Prop)->Prop
 |.leaf x,K=>GG x K
 |.agg l,K=>La l λvs=>K (.agg ⟨vs⟩)
 |.eZ n,K=>∀cs:List Value,cs.length=n->K (.agg ⟨cs⟩)
def aK_:List Ty->(List Value->Prop)->Prop
 |[],K=>K []
 |x::r,K=>TU x λv=>aK_ r λvs=>K (v::vs)
def iE.zQ{X:Type}{x:Ty}{f:iE x X}{v:Value}{K K':X->Prop}(h:iE.app x f v K)(hk:∀y,K y->K' y):iE.app x f v K':=by
 cases x with
 |leaf x=>exact aIg.zQ h hk
 |agg l=>cases v<;>first|exact h.elim|exact gM.zQ h hk
 |eZ n=>cases v<;>first|exact h.elim|exact⟨h.1,hk _ h.2⟩
def iE.tU{X:Type}{x:Ty}{f:iE x X}{v:Value}{K:X->Prop}{Q:Value->Prop}(h:iE.app x f v K)(hq:TU x Q):Q v:=by
 cases x with
 |leaf x=>exact aIg.tU h hq
 |agg l=>cases v<;>first|exact h.elim|exact gM.tU h hq
 |eZ n=>cases v<;>first|exact h.elim|exact hq _ h.1
def aIg.By{X:Type}{x:jc}{f:aIg x X}{v:Value}{K:X->Prop}(h:aIg.app x f v K):∃y,K y:=by
 cases x<;>cases v<;>simp only[aIg.app]at h<;>first|exact h.elim|exact⟨_,h⟩|skip
 rename_i k k' n;cases hd:decide (k=k')<;>simp[hd]at h;exact⟨_,h⟩
def gM.By{X:Type}{l:List jc}{f:gM l X}{vs:List Value}{K:X->Prop}(h:gM.app l f vs K):∃y,K y:=by
 induction l generalizing vs with
 |nil=>cases vs with
  |nil=>exact⟨_,h⟩
  |cons v vs=>exact h.elim
 |cons x r ih=>cases vs with
  |nil=>exact h.elim
  |cons v vs=>obtain⟨g,hg⟩:=aIg.By h;exact ih hg
def iE.By{X:Type}{x:Ty}{f:iE x X}{v:Value}{K:X->Prop}(h:iE.app x f v K):∃y,K y:=by
 cases x with
 |leaf x=>exact aIg.By h
 |agg l=>cases v<;>first|exact h.elim|exact gM.By h
 |eZ n=>cases v<;>first|exact h.elim|exact⟨_,h.2⟩
def dZ.zQ{X:Type}{l:List Ty}{f:dZ l X}{vs:List Value}{K K':X->Prop}(h:dZ.app l f vs K)(hk:∀y,K y->K' y):dZ.app l f vs K':=by
 induction l generalizing vs with
 |nil=>cases vs with
  |nil=>exact hk _ h
  |cons v vs=>exact h.elim
 |cons x r ih=>cases vs with
  |nil=>exact h.elim
  |cons v vs=>exact iE.zQ h λg hg=>ih hg
def dZ.tU{X:Type}{l:List Ty}{f:dZ l X}{vs:List Value}{K:X->Prop}{Q:List Value->Prop}(h:dZ.app l f vs K)(hq:aK_ l Q):Q vs:=by
 induction l generalizing vs Q with
 |nil=>cases vs with
  |nil=>exact hq
  |cons v vs=>exact h.elim
 |cons x r ih=>cases vs with
  |nil=>exact h.elim
  |cons v vs=>obtain⟨g,hg⟩:=iE.By h;exact ih (Q:=λvs=>Q (v::vs)) hg (iE.tU h hq)
def sH:Fr->Nat->(Value->Prop)->Prop
 |[],_,_=>False
 |v::_,0,K=>K v
 |_::l,n+1,K=>sH l n K
def wL:Fr->Nat->Value->(Fr->Prop)->Prop
 |[],_,_,K=>K []
 |_::l,0,v,K=>K (v::l)
 |x::l,n+1,v,K=>wL l n v λl'=>K (x::l')
def xM{l:Fr}{t:Nat}{K:Value->Prop}(h:sH l t K):∃v,l[t]?=some v/\K v:=by
 induction l generalizing t with
 |nil=>exact h.elim
 |cons x l ih=>cases t with
  |zero=>exact⟨x,rfl,h⟩
  |succ t=>exact ih h
def Bz{l:Fr}{t:Nat}{v:Value}{K:Fr->Prop}(h:wL l t v K):K (l.set t v):=by
 induction l generalizing t K with
 |nil=>exact h
 |cons x l ih=>cases t with
  |zero=>exact h
  |succ t=>exact ih (K:=λl'=>K (x::l')) h
def mT(l:Fr):Option Nat->Value->(Fr->Prop)->Prop
 |some d,v,K=>wL l d v K
 |none,_,K=>K l
def put(l:Fr):Option Nat->Value->Fr
 |some d,v=>l.set d v
 |none,_=>l
def jk{l:Fr}{d:Option Nat}{v:Value}{K:Fr->Prop}(h:mT l d v K):K (put l d v):=by
 cases d with
 |none=>exact h
 |some d=>exact Bz h
def act(l:Fr)(ds:List Deferred):Act:=⟨⟨l⟩,ds⟩
def aJB(l:Fr)(ds:List Deferred)(d:Option Nat)(v:Value):(act l ds).put d v=act (put l d v) ds:=by
 cases d with
 |none=>rfl
 |some d=>simp[act,Act.put,put,OC]
def cO(l:Fr):Operand->(Value->Prop)->Prop
 |.tmp t,K=>sH l t K
 |.const v,K=>K v
 |.global g,K=>K (.pointer (some ⟨g,0,none⟩))
 |.func f,K=>K (.func (.func f) #[] #[])
def cL{l:Fr}{ds:List Deferred}{x:Operand}{K:Value->Prop}(h:cO l x K):K ((act l ds).eval x):=by
 cases x with
 |tmp t=>obtain⟨v,hv,h⟩:=xM h;simpa[act,Act.eval,hv]using h
 |const v=>exact h
 |global g=>exact h
 |func f=>exact h
def wM(l:Fr):List Operand->(List Value->Prop)->Prop
 |[],K=>K []
 |x::r,K=>cO l x λv=>wM l r λvs=>K (v::vs)
def aK0{l:Fr}{ds:List Deferred}{xs:List Operand}{K:List Value->Prop}(h:wM l xs K):K (xs.map (act l ds).eval):=by
 induction xs generalizing K with
 |nil=>exact h
 |cons x r ih=>exact ih (cL (ds:=ds) h)
def eB(P:Program)(t:TypeId):Nat:=match P.info? t with
 |some i=>i.size
 |none=>0
def iS(P:Program)(t:TypeId):Bool:=match P.info? t with
 |some _=>true
 |none=>false
def ab7(P:Program)(t:TypeId):List jc:=match P.info? t with
 |some i=>match i.zero with
  |some (.agg ⟨cs⟩)=>cs.map G3
  |some v=>[G3 v]
  |none=>[]
 |none=>[]
def ae2(P:Program)(t:TypeId):jc:=match P.info? t with
 |some i=>match i.zero with
  |some v=>G3 v
  |none=>.raw
 |none=>.raw
def Ca(Rd:Addr->Value->Prop)(w:World):Prop:=∀a u,Rd a u->w.cell? a=some u
def pM{P:Program}{t:TypeId}(h:iS P t=true)(w:World):(sizeOf t).run P w=.ok (eB P t) w:=by
 unfold iS at h;unfold eB;cases hi:P.info? t with
 |none=>simp[hi]at h
 |some i=>simp[sizeOf,typeInfo,hi]
def yg(v:Value)(K:Addr->Prop):Prop:=match v with
 |.pointer p=>az p K
 |_=>False
def BA{v:Value}{K:Addr->Prop}(h:yg v K):∃a,v=.pointer (some a)/\K a:=by
 cases v<;>simp only[yg]at h<;>first|exact h.elim|skip
 obtain⟨a,rfl,h⟩:=aKT h;exact⟨a,rfl,h⟩
def Ee(v:Value)(K:IntKind->Int->Prop):Prop:=match v with
 |.int k n=>K k n
 |_=>False
def Lj{v:Value}{K:IntKind->Int->Prop}(h:Ee v K):∃k n,v=.int k n/\K k n:=by cases v<;>simp only[Ee]at h<;>first|exact h.elim|exact⟨_,_,rfl,h⟩
def Ma(Rd:Addr->Value->Prop)(a:Addr):Nat->List Value->Prop->Prop
 |_,[],K=>K
 |i,v::r,K=>Rd (a.add i) v/\Ma Rd a (i+1) r K
def asb{Rd:Addr->Value->Prop}{a:Addr}{vs:List Value}:∀{i:Nat} {K:Prop},Ma Rd a i vs K->(∀j u,vs[j]?=some u->Rd (a.add (i+j)) u)/\K:=by
 induction vs with
 |nil=>intro i K h;exact⟨by simp,h⟩
 |cons v r ih=>
  intro i K h;obtain⟨h0,h⟩:=h;obtain⟨h1,h2⟩:=ih h;refine⟨λj u hj=>?_,h2⟩;cases j with
  |zero=>simp at hj;subst hj;exact h0
  |succ j=>have:=h1 j u (by simpa using hj);rwa[FN,Nat.add_comm 1 j]at this
def Mb(P:Program)(t:TypeId)(a:Addr)(Rd:Addr->Value->Prop)(K:Value->Prop):Prop:=
 match P.underlying t with
 |some (.struct _)|some (.array _ _)=>ak (iS P t)
   (ak (Nat.ble (eB P t) 16)
    (Gp (ab7 P t) λvs=>ak (Nat.beq vs.length (eB P t)) (Ma Rd a 0 vs (K (.agg ⟨vs⟩))) False)
    (∃cs:List Value,cs.length=eB P t/\(∀j u,cs[j]?=some u->Rd (a.add j) u)/\K (.agg ⟨cs⟩))) False
 |some _=>DP (ae2 P t) λv=>Rd a v/\K v
 |none=>False
def Aw:TypeDesc->Bool
 |.struct _|.array _ _=>true
 |_=>false
def Dz{P:Program}{t:TypeId}{d:TypeDesc}(h:P.underlying t=some d)(w:World):(isAgg t).run P w=.ok (Aw d) w:=by unfold isAgg;rw[Sem.run_bind,run_underlying h w];cases d<;>rfl
def Zw{P:Program}{t:TypeId}{d:TypeDesc}(h:P.underlying t=some d)(hd:Aw d=true)(hi:iS P t=true){w:World}{a:Addr}{cs:List Value}
  (hl:cs.length=eB P t)(hc:∀j u,cs[j]?=some u->w.cell? (a.add j)=some u):(loadVar t a).run P w=.ok (.agg ⟨cs⟩) w:=by
 have h1:=Dz h w;rw[hd]at h1;have h2:=run_loadCells_list (P:=P) w a cs hc;rw[hl]at h2;simp only[loadVar,Sem.run_bind,h1,Result.andThen_ok,oV,pM hi,h2,Sem.run_pure]
def aa5{P:Program}{t:TypeId}{a:Addr}{Rd:Addr->Value->Prop}{K:Value->Prop}(h:Mb P t a Rd K):
  ∃v,K v/\∀w,Ca Rd w->(loadVar t a).run P w=.ok v w:=by
 unfold Mb at h;have agg:∀d,P.underlying t=some d->Aw d=true->ak (iS P t)
   (ak (Nat.ble (eB P t) 16)
    (Gp (ab7 P t) λvs=>ak (Nat.beq vs.length (eB P t)) (Ma Rd a 0 vs (K (.agg ⟨vs⟩))) False)
    (∃cs:List Value,cs.length=eB P t/\(∀j u,cs[j]?=some u->Rd (a.add j) u)/\K (.agg ⟨cs⟩))) False->∃v,K v/\∀w,Ca Rd w->(loadVar t a).run P w=.ok v w:=by
  intro d hu hd h;rw[aIs]at h;have hi:iS P t=true:=by
   cases hh:iS P t with
   |true=>rfl
   |false=>exact(h.2 hh).elim
  have h:=h.1 hi;rw[aIs]at h;cases hb:Nat.ble (eB P t) 16 with
  |true=>
   obtain⟨vs,_,_,h⟩:=Zh (h.1 hb);rw[aIs]at h;cases hl:Nat.beq vs.length (eB P t)with
   |false=>exact(h.2 hl).elim
   |true=>obtain⟨h1,h2⟩:=asb (h.1 hl);exact⟨_,h2,λw hw=>Zw hu hd hi (aIT hl) λj u hj=>hw _ _ (by simpa using h1 j u hj)⟩
  |false=>obtain⟨cs,h1,h2,h3⟩:=h.2 hb;exact⟨_,h3,λw hw=>Zw hu hd hi h1 λj u hj=>hw _ _ (h2 j u hj)⟩
 split at h
 .rename_i hu;exact agg _ hu rfl h
 .rename_i hu;exact agg _ hu rfl h
 .rename_i d hs ha hu
  obtain⟨v,_,h1,h2⟩:=KX h;refine⟨v,h2,λw hw=>?_⟩;have h3:=Dz hu w;have h4:Aw d=false:=by
   cases d<;>first|rfl|skip
   .rename_i n e;exact(ha n e rfl).elim
   .rename_i fs;exact(hs fs rfl).elim
  rw[h4]at h3;simp only[loadVar,Sem.run_bind,h3,Result.andThen_ok,kP,iR,run_load,hw _ _ h1]
 .exact h.elim
def Um(op:BinOp)(a b:List UInt8)(K:Value->Prop):Prop:=match op with
 |.add=>a.length+b.length<=9223372036854775807/\K (.string (S (a++b)))
 |.eql=>K (.bool (decide (a=b)))
 |.neq=>K (.bool (!decide (a=b)))
 |.lss=>K (.bool (Op.bytesLess a b))
 |.geq=>K (.bool (!Op.bytesLess a b))
 |.leq=>K (.bool (Op.bytesLess a b||decide (a=b)))
 |.gtr=>K (.bool (!(Op.bytesLess a b||decide (a=b))))
 |_=>False
def Un(op:BinOp)(k:IntKind)(a b:Int)(K:Value->Prop):Prop:=match op with
 |.add=>K (.int k (k.wrap (a+b)))
 |.sub=>K (.int k (k.wrap (a-b)))
 |.mul=>K (.int k (k.wrap (a*b)))
 |.quo=>b≠0/\K (.int k (k.wrap (a.tdiv b)))
 |.rem=>b≠0/\K (.int k (a.tmod b))
 |.and=>K (.int k (bits .and k a b))
 |.or=>K (.int k (bits .or k a b))
 |.xor=>K (.int k (bits .xor k a b))
 |.andNot=>K (.int k (bits .andNot k a b))
 |.eql=>K (.bool (decide (a=b)))
 |.neq=>K (.bool (!decide (a=b)))
 |.lss=>K (.bool (decide (a<b)))
 |.leq=>K (.bool (decide (a<=b)))
 |.gtr=>K (.bool (decide (b<a)))
 |.geq=>K (.bool (decide (b<=a)))
 |_=>False
def dR{c:Bool}{A:Prop}(h:ak c A False):c=true/\A:=by
 cases c
 .exact h.elim
 .exact⟨rfl,h⟩
def SJ(P:Program)(t:TypeId)(x y:Value)(K:Bool->Prop):Prop:=match P.underlying t with
 |some (.int _)=>match x,y with
  |.int k a,.int k' b=>ak (decide (k=k')) (K (decide (a=b))) False
  |_,_=>False
 |some .string=>match x,y with
  |.string ⟨⟨a⟩⟩,.string ⟨⟨b⟩⟩=>K (decide (a=b))
  |_,_=>False
 |some .bool=>match x,y with
  |.bool a,.bool b=>K (decide (a=b))
  |_,_=>False
 |_=>False
def RP(P:Program)(xs ys:List Value):List Field->(Bool->Prop)->Prop
 |[],K=>K true
 |f::r,K=>ak (decide (f.name≠ "_")) (sH xs f.offset λx=>sH ys f.offset λy=>SJ P f.type x y λb=>RP P xs ys r λb'=>K (b&&b')) False
def aa6(P:Program)(t:TypeId):Bool:=match P.underlying t with
 |some (.struct _)=>true
 |_=>false
def xN(a:List UInt8):(S a).toList=a:=ByteArray.toList_mk a
def aps{P:Program}{t:TypeId}{x y:Value}{K:Bool->Prop}(h:SJ P t x y K):
  ∃b,K b/\(∀d w,(Op.equalIn (d+1) t x y).run P w=.ok b w)/\∀(cs:Array Value) (off:Nat) (v:Value) (w:World),cs[off]?=some v->(part t cs off).run P w=.ok v w:=by
 have plain:∀{d:TypeDesc},P.underlying t=some d->Aw d=false->∀(cs:Array Value) (off:Nat) (v:Value) (w:World),cs[off]?=some v->(part t cs off).run P w=.ok v w:=by intro d hu hd cs off v w hv;have h3:=Dz hu w;rw[hd]at h3;simp only[part,Sem.run_bind,h3,Result.andThen_ok,kP,iR,hv,Sem.run_pure]
 unfold SJ at h;split at h
 .rename_i k0 hu
  split at h
  .rename_i k a k' b
   rw[aIs]at h;cases hd:decide (k=k')with
   |false=>exact(h.2 hd).elim
   |true=>obtain rfl:=aT hd;exact⟨_,h.1 hd,λd w=>by rw[run_equalIn_int w d t _ _ _ _ hu];rfl,plain hu rfl⟩
  .exact h.elim
 .rename_i hu
  split at h
  .rename_i a b
   refine⟨_,h,λd w=>?_,plain hu rfl⟩;have:=run_equalIn_string w d t (S a) (S b) hu;rw[xN,xN]at this;rw[show(Value.string ⟨⟨a⟩⟩)=.string (S a)from rfl,show(Value.string ⟨⟨b⟩⟩)=.string (S b)from rfl,this];congr 1;rw[r_];simp
  .exact h.elim
 .rename_i hu
  split at h
  .rename_i a b
   refine⟨_,h,λd w=>?_,plain hu rfl⟩;rw[run_equalIn_bool' w d t a b hu];rfl
  .exact h.elim
 .exact h.elim
def Y7{P:Program}{xs ys:List Value}:∀{fs:List Field} {K:Bool->Prop},RP P xs ys fs K->∃b,K b/\∀d w,(Op.eqFields (d+1) ⟨xs⟩ ⟨ys⟩ fs).run P w=.ok b w
 |[],K,h=>⟨true,h,λd w=>by simp[Op.eqFields]⟩
 |f::r,K,h=>by
  obtain⟨hn,h⟩:=dR h;obtain⟨x,hx,h⟩:=xM h;obtain⟨y,hy,h⟩:=xM h;obtain⟨b,h,he,hp⟩:=aps h;obtain⟨b',hk,hr⟩:=Y7 h;refine⟨b&&b',hk,λd w=>?_⟩;have hn:=aT hn;have h1:=hp ⟨xs⟩ f.offset x w (by simpa using hx);have h2:=hp ⟨ys⟩ f.offset y w (by simpa using hy);simp only[Op.eqFields,aR hn,Sem.run_bind,h1,h2,Result.andThen_ok,he d w];cases b with
  |true=>simpa using hr d w
  |false=>simp
def adg(P:Program)(op:BinOp)(t:TypeId)(xs ys:List Value)(K:Value->Prop):Prop:=
 ak (aa6 P t&& !P.stoodInHeld t&& !P.eqGuardType P.depth t) (RP P xs ys (P.fieldsOf t).toList λb=>match op with
  |.eql=>K (.bool b)
  |.neq=>K (.bool (!b))
  |_=>False) False
def Zx{P:Program}{op:BinOp}{t:TypeId}{xs ys:List Value}{K:Value->Prop}(h:adg P op t xs ys K):
  P.eqGuardType P.depth t=false/\∃v,K v/\∀w,(binOp op t (.agg ⟨xs⟩) (.agg ⟨ys⟩)).run P w=.ok v w:=by
 obtain⟨hb,h⟩:=dR h;simp only[eC,JX]at hb;obtain⟨⟨h1,h2⟩,h3⟩:=hb;obtain⟨b,hk,hr⟩:=Y7 h;have ht:P.underlying t=some (.struct (P.fieldsOf t)):=by
  unfold aa6 at h1;unfold Program.fieldsOf;split at h1
  .rename_i fs hu
   rw[hu]
  .cases h1
 have heq:∀w,(Op.equalIn 10000 t (.agg ⟨xs⟩) (.agg ⟨ys⟩)).run P w=.ok b w:=λw=>by rw[show(10000:Nat)=9999+1 from rfl,run_equalIn_struct w 9999 t _ _ ht h2];exact hr 9998 w
 refine⟨h3,?_⟩;split at hk
 .exact⟨_,hk,λw=>by rw[run_eql_struct,heq w];rfl⟩
 .exact⟨_,hk,λw=>by rw[run_neq_struct,heq w];rfl⟩
 .exact hk.elim
def My(P:Program)(te:TypeId)(op:BinOp)(p q:Option Addr)(K:Bool->Prop):Prop:=match q with
 |none=>match op with
  |.eql=>K p.isNone
  |.neq=>K (!p.isNone)
  |_=>False
 |some b=>iS P te=true/\p=some b/\match op with
  |.eql=>K true
  |.neq=>K false
  |_=>False
def atQ{P:Program}{te t:TypeId}(hu:P.underlying t=some (.pointer te)){op:BinOp}{p q:Option Addr}{K:Bool->Prop}(h:My P te op p q K):
  ∃b,K b/\∀w,(binOp op t (.pointer p) (.pointer q)).run P w=.ok (.bool b) w:=by
 cases q with
 |none=>
  have hd:∀d w,(Op.equalIn (d+1) t (.pointer p) (.pointer none)).run P w=.ok p.isNone w:=by intro d w;cases p<;>simp[Op.equalIn,run_underlying hu]
  have hq:∀w,(Op.equal t (.pointer p) (.pointer none)).run P w=.ok p.isNone w:=hd 9999;cases op<;>simp only[My]at h<;>first|exact h.elim|exact⟨_,h,λw=>by simp[binOp,hq w]⟩
 |some b=>
  obtain⟨hi,rfl,h⟩:=h;obtain⟨j,hj⟩:∃j,P.info? te=some j:=by
   unfold iS at hi;cases hj:P.info? te with
   |none=>rw[hj]at hi;cases hi
   |some j=>exact⟨j,rfl⟩
  cases op<;>simp only at h<;>first|exact h.elim|skip
  .refine⟨_,h,λw=>?_⟩
   have h:∀d:Nat,(Op.equalIn (d+1) t (.pointer (some b)) (.pointer (some b))).run P w=.ok true w:=λd=>by simp[Op.equalIn,run_underlying hu,sizeOf,typeInfo,hj,run_sameAddr_same]
   simp only[binOp];simp[Op.equal,Op.maxDepth,h 9999]
  .exact⟨_,h,λw=>Lib.run_neq_ptr_same w b hu hj⟩
def Mc(P:Program)(op:BinOp)(t:TypeId)(x y:Value)(K:Value->Prop):Prop:=
 match x,y with
 |.int k a,.int k' b=>match op with
  |.shl=>0<=b/\K (.int k (k.wrap (a*2^(min b.toNat k.bits))))
  |.shr=>0<=b/\K (.int k (a.fdiv (2^(min b.toNat k.bits))))
  |op=>ak (decide (k=k')) (Un op k a b K) False
 |.string ⟨⟨a⟩⟩,.string ⟨⟨b⟩⟩=>Um op a b K
 |.bool a,.bool b=>match P.underlying t with
  |some .bool=>match op with
   |.eql=>K (.bool (decide (a=b)))
   |.neq=>K (.bool (!decide (a=b)))
   |_=>False
  |_=>False
 |.pointer p,.pointer q=>match P.underlying t with
  |some (.pointer te)=>My P te op p q λb=>K (.bool b)
  |_=>False
 |.slice p _ _,.slice none _ _=>match P.underlying t with
  |some (.slice _)=>match op with
   |.eql=>K (.bool p.isNone)
   |.neq=>K (.bool (!p.isNone))
   |_=>False
  |_=>False
 |.map p,.map none=>match P.underlying t with
  |some (.map _ _)=>match op with
   |.eql=>K (.bool p.isNone)
   |.neq=>K (.bool (!p.isNone))
   |_=>False
  |_=>False
 |.agg ⟨xs⟩,.agg ⟨ys⟩=>adg P op t xs ys K
 |_,_=>False
def atS{P:Program}{op:BinOp}{a b:List UInt8}{K:Value->Prop}(h:Um op a b K):∃v,K v/\∀w,(Op.stringOp op (S a) (S b)).run P w=.ok v w:=by
 have he:((S a).toList==(S b).toList)=decide (a=b):=by rw[xN,xN,r_];simp
 have hb:Op.bytesLess (S a).toList (S b).toList=Op.bytesLess a b:=by rw[xN,xN]
 cases op<;>simp only[Um]at h<;>first|exact h.elim|skip
 .refine⟨_,h.2,λw=>?_⟩
  have:=run_string_add_sum (P:=P) w (S a) (S b) (by simpa[ByteArray.size]using h.1);rw[this];congr 2
 all_goals(refine⟨_,h,λw=>?_⟩;simp only[Op.stringOp,he,hb,Sem.run_pure])
def atT{P:Program}{op:BinOp}{t:TypeId}{k:IntKind}{a b:Int}{K:Value->Prop}(hs:op≠.shl)(hr:op≠.shr)(h:Un op k a b K):∃v,K v/\∀w,(binOp op t (.int k a) (.int k b)).run P w=.ok v w:=by
 cases op<;>simp only[Un]at h<;>first|exact h.elim|exact absurd rfl hs|exact absurd rfl hr|skip
 all_goals first
  |(refine⟨_,h,λw=>?_⟩;first
    |(simp only[binOp_add,binOp_sub,binOp_mul,Op.intArith,Sem.run_pure];done)
    |(simp only[binOp_and,binOp_or,binOp_xor,binOp_andNot,intBits_and,intBits_or,intBits_xor,intBits_andNot,Sem.run_pure];done)
    |(simp only[binOp_lss,binOp_leq,binOp_gtr,binOp_geq,Sem.run_pure,gt_iff_lt,ge_iff_le];done)
    |(simp only[binOp_eql,binOp_neq,Sem.run_pure];rfl))
  |(refine⟨_,h.2,λw=>?_⟩;simp[binOp_quo,binOp_rem,Op.intDiv,h.1])
def asc{P:Program}{op:BinOp}{t:TypeId}{x y:Value}{K:Value->Prop}(h:Mc P op t x y K):∃v,K v/\∀w,(binOp op t x y).run P w=.ok v w:=by
 unfold Mc at h;split at h
 .rename_i k a k' b
  split at h
  .exact⟨_,h.2,λw=>by simp[binOp_shl,Op.shift,show¬b<0 by omega]⟩
  .exact⟨_,h.2,λw=>by simp[binOp_shr,Op.shift,show¬b<0 by omega]⟩
  .rename_i hs hr
   rw[aIs]at h;cases hd:decide (k=k')with
   |false=>exact(h.2 hd).elim
   |true=>obtain rfl:=aT hd;exact atT (λe=>hs e) (λe=>hr e) (h.1 hd)
 .rename_i a b
  obtain⟨v,h1,h2⟩:=atS (P:=P) h;refine⟨v,h1,λw=>?_⟩;have:=h2 w;cases op<;>simpa[binOp]using this
 .split at h
  .rename_i hu
   split at h<;>first|exact h.elim|skip
   .exact⟨_,h,λw=>by rw[run_eql_bool w t _ _ hu];rfl⟩
   .exact⟨_,h,λw=>by rw[run_neq_bool w t _ _ hu];rfl⟩
  .exact h.elim
 .rename_i p q
  split at h
  .rename_i e hu
   obtain⟨b,hk,hr⟩:=atQ hu h;exact⟨_,hk,hr⟩
  .exact h.elim
 .rename_i p n c n' c'
  split at h
  .rename_i e hu
   have hd:∀d w,(Op.equalIn (d+1) t (.slice p n c) (.slice none n' c')).run P w=.ok p.isNone w:=by intro d w;cases p<;>simp[Op.equalIn,run_underlying hu]
   have hq:∀w,(Op.equal t (.slice p n c) (.slice none n' c')).run P w=.ok p.isNone w:=hd 9999;split at h<;>first|exact h.elim|skip
   .exact⟨_,h,λw=>by simp[binOp,hq w]⟩
   .exact⟨_,h,λw=>by simp[binOp,hq w]⟩
  .exact h.elim
 .rename_i p
  split at h
  .rename_i k e hu
   have hd:∀d w,(Op.equalIn (d+1) t (.map p) (.map none)).run P w=.ok p.isNone w:=by intro d w;cases p<;>simp[Op.equalIn,run_underlying hu]
   have hq:∀w,(Op.equal t (.map p) (.map none)).run P w=.ok p.isNone w:=hd 9999;split at h<;>first|exact h.elim|skip
   .exact⟨_,h,λw=>by simp[binOp,hq w]⟩
   .exact⟨_,h,λw=>by simp[binOp,hq w]⟩
  .exact h.elim
 .exact(Zx h).2
 .exact h.elim
def Af(op:BinOp)(v:Value)(K:Bool->Prop):Prop:=match v with
 |.nilIface=>(match op with
  |.eql=>K true
  |.neq=>K false
  |_=>False)
 |.iface _ _=>(match op with
  |.eql=>K false
  |.neq=>K true
  |_=>False)
 |_=>False
def Ag(op:BinOp)(ty:TypeId)(k:IntKind)(n:Int)(v:Value)(K:Bool->Prop):Prop:=match v with
 |.nilIface=>(match op with
  |.eql=>K false
  |.neq=>K true
  |_=>False)
 |.iface tx (.int k' m)=>tx=ty/\k'=k/\(match op with
  |.eql=>K (decide (m=n))
  |.neq=>K (!decide (m=n))
  |_=>False)
 |_=>False
def DQ(P:Program)(t:TypeId):Bool:=match P.underlying t with
 |some (.interface _)=>true
 |_=>false
def TV(P:Program)(t:TypeId):Bool:=match P.info? t with
 |some i=>i.comparable
 |none=>false
def Uo(P:Program)(t:TypeId):Bool:=match P.underlying t with
 |some (.int _)=>true
 |_=>false
def Z5{P:Program}{t:TypeId}(h:DQ P t=true):∃ms,P.underlying t=some (.interface ms):=by
 unfold DQ at h;split at h
 .exact⟨_,by assumption⟩
 .cases h
def asd{P:Program}{op:BinOp}{t:TypeId}{v:Value}{K:Bool->Prop}(ht:DQ P t=true)(h:Af op v K):∃b,K b/\∀w,(binOp op t v .nilIface).run P w=.ok (.bool b) w:=by
 obtain⟨ms,hu⟩:=Z5 ht;have hi:P.isIface t=true:=by simp[Program.isIface,hu]
 unfold Af at h;split at h
 .split at h
  .exact⟨_,h,λw=>run_eql_nil_nil_at w t hi⟩
  .exact⟨_,h,λw=>run_neq_nil_nil_at w t hi⟩
  .exact h.elim
 .split at h
  .exact⟨_,h,λw=>run_eql_iface_nil w t hi _ _⟩
  .exact⟨_,h,λw=>run_neq_iface_nil w t hi _ _⟩
  .exact h.elim
 .exact h.elim
def ase{P:Program}{op:BinOp}{t ty:TypeId}{k:IntKind}{n:Int}{v:Value}{K:Bool->Prop}(ht:DQ P t=true)(hc:TV P ty=true)(hn:Uo P ty=true)(h:Ag op ty k n v K):
  ∃b,K b/\∀w,(binOp op t v (.iface ty (.int k n))).run P w=.ok (.bool b) w:=by
 obtain⟨ms,hu⟩:=Z5 ht;have Ir:(P.info? ty).map (·.comparable)=some true:=by
  unfold TV at hc;split at hc
  .rename_i i hi
   rw[hi];simpa using hc
  .cases hc
 obtain⟨q,hq⟩:∃q,P.underlying ty=some (.int q):=by
  unfold Uo at hn;split at hn
  .exact⟨_,by assumption⟩
  .cases hn
 unfold Ag at h;split at h
 .split at h
  .exact⟨_,h,λw=>run_eql_iface_nil_left w ty _ hu⟩
  .refine⟨_,h,λw=>?_⟩
   have h:∀d:Nat,(Op.equalIn (d+1) t .nilIface (.iface ty (.int k n))).run P w=.ok false w:=λd=>by simp[Op.equalIn,run_underlying hu]
   simp only[binOp];simp[Op.equal,Op.maxDepth,h 9999]
  .exact h.elim
 .rename_i tx k' m
  obtain⟨rfl,rfl,h⟩:=h;split at h
  .refine⟨_,h,λw=>?_⟩
   rw[Lib.run_eql_iface_int w _ _ hu Ir hq];rfl
  .refine⟨_,h,λw=>?_⟩
   cases hi:P.info? tx with
   |none=>simp[hi]at Ir
   |some i=>
    have Ni:i.comparable=true:=by simpa[hi]using Ir
    have h:∀d:Nat,(Op.equalIn (d+2) t (.iface tx (.int k' m)) (.iface tx (.int k' n))).run P w=.ok (m==n) w:=λd=>by simp[Op.equalIn,run_underlying hu,run_underlying hq,typeInfo,hi,Ni]
    simp only[binOp];simp[Op.equal,Op.maxDepth,h 9998];rfl
  .exact h.elim
 .exact h.elim
def Mz(P:Program)(op:BinOp)(t:TypeId)(x y:Value)(K:Value->Prop):Prop:=match y with
 |.iface ty (.int k n)=>ak (DQ P t&&TV P ty&&Uo P ty) (Ag op ty k n x λb=>K (.bool b)) False
 |y=>Mc P op t x y K
def atU{P:Program}{op:BinOp}{t:TypeId}{x y:Value}{K:Value->Prop}(h:Mz P op t x y K):∃v,K v/\∀w,(binOp op t x y).run P w=.ok v w:=by
 unfold Mz at h;split at h
 .obtain⟨hb,h⟩:=dR h
  simp only[eC]at hb;obtain⟨b,hk,hr⟩:=ase hb.1.1 hb.1.2 hb.2 h;exact⟨_,hk,hr⟩
 .exact asc h
def Vh(op:UnOp)(x:Value)(K:Value->Prop):Prop:=match op,x with
 |.not,.bool b=>K (.bool (!b))
 |.neg,.int k n=>K (.int k (k.wrap (0-n)))
 |.xor,.int k n=>K (.int k (bits .xor k (bif k.signed then-1 else k.max) n))
 |_,_=>False
def avw{P:Program}{op:UnOp}{x:Value}{K:Value->Prop}(h:Vh op x K):∃v,K v/\∀w,(Op.unary op x).run P w=.ok v w:=by
 unfold Vh at h;split at h
 .exact⟨_,h,λw=>rfl⟩
 .exact⟨_,h,λw=>rfl⟩
 .rename_i k n
  refine⟨_,h,λw=>?_⟩;cases hk:k.signed<;>simp[Op.unary,hk,intBits_xor]
 .exact h.elim
def H6(P:Program)(e:TypeId):Bool:=match P.underlying e with
 |some (.int .u8)=>true
 |_=>false
def ab8{P:Program}{e:TypeId}(h:H6 P e=true):P.underlying e=some (.int .u8):=by
 unfold H6 at h;split at h;·assumption
 .cases h
def aKj(Rd:Addr->Value->Prop)(p:Option Addr)(n:Nat)(bs:List UInt8):Prop:=
 bs.length=n/\(0<n->∃a,p=some a/\∀(j:Nat) (b:UInt8),bs[j]?=some b->Rd (a.add j) (.int .u8 b.toNat))
def D1(P:Program)(src dst:TypeId)(x:Value)(Rd:Addr->Value->Prop)(K:Value->Prop):Prop:=match x with
 |.int _ n=>match P.underlying src,P.underlying dst with
  |some _,some (.int k)=>K (.int k (k.wrap n))
  |_,_=>False
 |.string ⟨⟨s⟩⟩=>match P.underlying src,P.underlying dst with
  |some _,some .string=>K (.string (S s))
  |_,_=>False
 |.slice p n _=>match P.underlying src,P.underlying dst with
  |some (.slice e),some .string=>ak (H6 P e) (∃bs:List UInt8,aKj Rd p n bs/\K (.string (S bs))) False
  |_,_=>False
 |_=>False
def foldl_push(bs:List UInt8):∀acc:List UInt8,(bs.map λb=>(b.toNat:Int)).foldl (λr n=>r.push (UInt8.ofNat n.toNat)) (S acc)=S (acc++bs):=by
 induction bs with
 |nil=>intro acc;simp
 |cons b r ih=>
  intro acc;have hb:UInt8.ofNat ((b.toNat:Int)).toNat=b:=by simp
  have hp:(S acc).push b=S (acc++[b]):=by show ByteArray.mk ((Array.mk acc).push b)=_;simp
  simp only[fW,vQ,hb,hp,ih];simp
def apt{P:Program}{w:World}{p:Option Addr}{n c:Nat}{bs:List UInt8}(h:aKj (λa v=>w.cell? a=some v) p n bs):
  (Conv.bytesToString (.slice p n c)).run P w=.ok (.string (S bs)) w:=by
 obtain⟨hl,hp⟩:=h;cases p with
 |none=>
  have:n=0:=by
   rcases pK n with h|h
   .exact h
   .obtain⟨a,h,_⟩:=hp h;cases h
  subst this;obtain rfl:=mH hl;rfl
 |some a=>
  have hc:∀j v,(bs.map λb=>Value.int .u8 b.toNat)[j]?=some v->w.cell? (a.add j)=some v:=by
   intro j v hj;rcases pK n with h0|h0
   .subst h0;obtain rfl:=mH hl;simp at hj
   .obtain⟨a',ha,hc⟩:=hp h0
    obtain rfl:=bM ha;simp only[vM,XA]at hj;obtain⟨b,hb,rfl⟩:=hj;exact hc j b hb
  have h1:=run_loadCells_list (P:=P) w a _ hc;rw[aIB,hl]at h1;have h2:(bs.map λb=>Value.int .u8 b.toNat)=(bs.map λb=>(b.toNat:Int)).map (Value.int .u8):=by simp
  rw[h2]at h1;rw[run_bytesToString w a n c _ h1];have:=foldl_push bs [];simp only[zm]at this;exact gK (λs=>Result.ok (Value.string s) w) this
def aa7{P:Program}{src dst:TypeId}{x:Value}{Rd:Addr->Value->Prop}{K:Value->Prop}(h:D1 P src dst x Rd K):
  ∃v,K v/\∀w,Ca Rd w->(convert src dst x).run P w=.ok v w:=by
 unfold D1 at h;split at h
 .split at h
  .rename_i hs hd
   refine⟨_,h,λw _=>?_⟩;simp[convert,run_underlying hs,run_underlying hd,Conv.intToInt]
  .exact h.elim
 .split at h
  .rename_i hs hd
   refine⟨_,h,λw _=>?_⟩;simp[convert,run_underlying hs,run_underlying hd]
  .exact h.elim
 .split at h
  .rename_i hs hd
   rw[aIs]at h;cases hu:H6 P _ with
   |false=>exact(h.2 hu).elim
   |true=>obtain⟨bs,hb,hk⟩:=h.1 hu;refine⟨_,hk,λw hw=>?_⟩;rw[run_convert_bytes_string w src dst _ _ _ _ hs (ab8 hu) hd];exact apt ⟨hb.1,λh0=>by obtain⟨a,ha,hc⟩:=hb.2 h0;exact⟨a,ha,λj b hj=>hw _ _ (hc j b hj)⟩⟩
  .exact h.elim
 .exact h.elim
def TW(s:List UInt8)(lo hi:Option Value)(K:Value->Prop):Prop:=match lo,hi with
 |none,none=>K (.string (S s))
 |some (.int _ i),none=>0<=i/\i<=s.length/\K (.string (S (s.drop i.toNat)))
 |none,some (.int _ j)=>0<=j/\j<=s.length/\K (.string (S (s.take j.toNat)))
 |some (.int _ i),some (.int _ j)=>0<=i/\i<=j/\j<=s.length/\K (.string (S ((s.drop i.toNat).take (j.toNat-i.toNat))))
 |_,_=>False
def aLs(p:Option Addr)(n c sz:Nat)(lo hi:Option Value)(K:Value->Prop):Prop:=match lo,hi with
 |none,none=>K (.slice p n c)
 |some (.int _ i),none=>0<=i/\i<=n/\K (.slice (if c=i.toNat then p else p.map (·.add (i.toNat*sz))) (n-i.toNat) (c-i.toNat))
 |none,some (.int _ j)=>0<=j/\j<=c/\K (.slice p j.toNat c)
 |some (.int _ i),some (.int _ j)=>0<=i/\i<=j/\j<=c/\K (.slice (if c=i.toNat then p else p.map (·.add (i.toNat*sz))) (j.toNat-i.toNat) (c-i.toNat))
 |_,_=>False
def BK(P:Program)(t:TypeId)(x:Value)(lo hi:Option Value)(K:Value->Prop):Prop:=match x with
 |.string ⟨⟨s⟩⟩=>match P.underlying t with
  |some .string=>TW s lo hi K
  |_=>False
 |.slice p n c=>match P.underlying t with
  |some (.slice e)=>ak (iS P e) (aLs p n c (eB P e) lo hi K) False
  |_=>False
 |.pointer p=>match P.underlying t with
  |some (.array n e)=>ak (iS P e) (az p λa=>aLs (some a) n n (eB P e) lo hi K) False
  |_=>False
 |_=>False
def Bt{P:Program}{k:IntKind}{i:Int}{y:Nat}{code:BoundsCode}(h0:0<=i)(h1:i<=y)(w:World):(Instr.sliceBound (.int k i) y code).run P w=.ok i.toNat w:=run_sliceBound w k i y code h0 h1
def Zy(P:Program)(b:Bool)(n c:Nat)(w:World):(Instr.sliceBounds b n c none none none).run P w=.ok (0,n,c) w:=by simp[Instr.sliceBounds]
def aa8{P:Program}{k:IntKind}{i:Int}(b:Bool){n:Nat}(c:Nat)(h0:0<=i)(h1:i<=n)(w:World):(Instr.sliceBounds b n c (some (.int k i)) none none).run P w=.ok (i.toNat,n,c) w:=by simp[Instr.sliceBounds,Bt h0 h1]
def aa9{P:Program}{k:IntKind}{j:Int}(b:Bool)(n:Nat){c:Nat}(h0:0<=j)(h1:j<=c)(w:World):(Instr.sliceBounds b n c none (some (.int k j)) none).run P w=.ok (0,j.toNat,c) w:=by simp[Instr.sliceBounds,Bt h0 h1]
def Zz{P:Program}{k k':IntKind}{i j:Int}(b:Bool)(n:Nat){c:Nat}(h0:0<=i)(h1:i<=j)(h2:j<=c)(w:World):(Instr.sliceBounds b n c (some (.int k i)) (some (.int k' j)) none).run P w=.ok (i.toNat,j.toNat,c) w:=by
 have e:((j.toNat:Nat):Int)=j:=Int.toNat_of_nonneg (by omega);have hj:0<=j:=by omega
 simp[Instr.sliceBounds,Bt hj h2,Bt h0 (show i<=((j.toNat:Nat):Int) by omega)]
def asf{P:Program}{t:TypeId}{s:List UInt8}{lo hi:Option Value}{K:Value->Prop}(ht:P.underlying t=some .string)(h:TW s lo hi K):
  ∃v,K v/\∀w,(Instr.sliceAt t (.string (S s)) lo hi none).run P w=.ok v w:=by
 have ex:∀a b,(S s).extract a b=S ((s.drop a).take (b-a)):=λa b=>ByteArray.extract_mk s a b;have fin:∀a b w,(Instr.sliceBounds false s.length s.length lo hi none).run P w=.ok (a,b,s.length) w->(Instr.sliceAt t (.string (S s)) lo hi none).run P w=.ok (.string (S ((s.drop a).take (b-a)))) w:=by intro a b w hb;have hsz:(S s).size=s.length:=rfl;rw[run_sliceAt_string w t _ _ _ _ ht];simp only[Instr.slice,Sem.run_bind,run_underlying ht,Result.andThen_ok,Option.isSome_none,kP,iR,hsz,hb,Sem.run_pure,ex]
 unfold TW at h;split at h
 .refine⟨_,h,λw=>?_⟩
  have:=fin 0 s.length w (Zy ..);simpa using this
 .refine⟨_,h.2.2,λw=>?_⟩
  have:=fin _ _ w (aa8 _ _ h.1 h.2.1 w);rw[this];rw[vK (by simp)]
 .refine⟨_,h.2.2,λw=>?_⟩
  have:=fin _ _ w (aa9 _ _ h.1 h.2.1 w);simpa using this
 .exact⟨_,h.2.2.2,λw=>fin _ _ w (Zz _ _ h.1 h.2.1 h.2.2.1 w)⟩
 .exact h.elim
def aa_{P:Program}{p:Option Addr}{n c sz:Nat}{lo hi:Option Value}{K:Value->Prop}(h:aLs p n c sz lo hi K):
  ∃l j,(∀b w,(Instr.sliceBounds b n c lo hi none).run P w=.ok (l,j,c) w)/\K (.slice (if c=l then p else p.map (·.add (l*sz))) (j-l) (c-l)):=by
 have z:(if c=0 then p else p.map (·.add (0*sz)))=p:=by
  split;·rfl
  .cases p<;>simp[Addr.add]
 unfold aLs at h;split at h
 .exact⟨0,n,λb w=>Zy ..,by rw[z];exact h⟩
 .exact⟨_,_,λb w=>aa8 b c h.1 h.2.1 w,h.2.2⟩
 .exact⟨0,_,λb w=>aa9 b n h.1 h.2.1 w,by rw[z];exact h.2.2⟩
 .exact⟨_,_,λb w=>Zz b n h.1 h.2.1 h.2.2.1 w,h.2.2.2⟩
 .exact h.elim
def aqv{P:Program}{t:TypeId}{x:Value}{lo hi:Option Value}{K:Value->Prop}(h:BK P t x lo hi K):
  ∃v,K v/\∀w,(Instr.sliceAt t x lo hi none).run P w=.ok v w:=by
 unfold BK at h;split at h
 .split at h
  .rename_i ht;exact asf ht h
  .exact h.elim
 .split at h
  .rename_i e ht
   obtain⟨hi',h⟩:=dR h;obtain⟨l,j,hb,hk⟩:=aa_ (P:=P) h;refine⟨_,hk,λw=>?_⟩;simp only[Instr.sliceAt,Instr.slice,Sem.run_bind,run_underlying ht,Result.andThen_ok,hb,pM hi',Sem.run_pure]
  .exact h.elim
 .split at h
  .rename_i n e ht
   obtain⟨hi',h⟩:=dR h;obtain⟨a,rfl,h⟩:=aKT h;obtain⟨l,j,hb,hk⟩:=aa_ (P:=P) h;refine⟨_,hk,λw=>?_⟩;simp only[Instr.sliceAt,Instr.sureAddr,Sem.run_bind,run_underlying ht,Result.andThen_ok,hb,pM hi',Sem.run_pure,FE];split<;>rfl
  .exact h.elim
 .exact h.elim
def ad9(P:Program)(t:TypeId)(x i:Value)(K:Value->Prop):Prop:=Ee i λ_ i=>match x with
 |.string ⟨⟨s⟩⟩=>match P.underlying t with
  |some .string=>0<=i/\∃b:UInt8,s[i.toNat]?=some b/\K (.int .u8 b.toNat)
  |_=>False
 |.agg ⟨cs⟩=>match P.underlying t with
  |some (.array n e)=>match P.underlying e with
   |some (.struct _)|some (.array _ _)=>False
   |some _=>ak (iS P e) (0<=i/\i<n/\DP (ae2 P e) λv=>cs[i.toNat*eB P e]?=some v/\K v) False
   |none=>False
  |_=>False
 |_=>False
def aqw{P:Program}{t:TypeId}{x i:Value}{K:Value->Prop}(h:ad9 P t x i K):∃v,K v/\∀w,(Instr.index t x i).run P w=.ok v w:=by
 obtain⟨k,i,rfl,h'⟩:=Lj h;clear h;have h:=h';clear h';split at h
 .rename_i s
  split at h
  .rename_i ht
   obtain⟨h0,b,hb,hk⟩:=h;refine⟨_,hk,λw=>?_⟩;have hl:i.toNat<s.length:=(jj.1 hb).1;have hsz:(S s).size=s.length:=rfl;have hg:(S s)[i.toNat]?=some b:=by rw[ByteArray.getElem?_lt' _ _ (by rw[hsz];exact hl)];rw[gJ hl]at hb;exact hb
   simp only[Instr.index,asIntOf,Sem.run_bind,Sem.run_pure,Result.andThen_ok,run_underlying ht,aR h0,hg]
  .exact h.elim
 .rename_i cs
  split at h
  .rename_i n e ht
   split at h
   .exact h.elim
   .exact h.elim
   .rename_i d hs ha hu
    obtain⟨hi,h⟩:=dR h;obtain⟨h0,h1,h⟩:=h;obtain⟨v,_,hv,hk⟩:=KX h;refine⟨v,hk,λw=>?_⟩;have h3:=Dz hu w;have h4:Aw d=false:=by
     cases d<;>first|rfl|skip
     .rename_i n e;exact(ha n e rfl).elim
     .rename_i fs;exact(hs fs rfl).elim
    rw[h4]at h3;simp only[Instr.index,asIntOf,Sem.run_bind,Sem.run_pure,Result.andThen_ok,run_underlying ht,aR (And.intro h0 h1),pM hi,part,h3,kP,iR,Be,hv]
   .exact h.elim
  .exact h.elim
 .exact h.elim
def Z6(P:Program)(t:TypeId)(x i:Value)(K:Value->Prop):Prop:=Ee i λ_ i=>match x with
 |.slice p n _=>match P.underlying t with
  |some (.slice e)=>ak (iS P e) (0<=i/\i<n/\az p λa=>K (.pointer (some (a.add (i.toNat*eB P e))))) False
  |_=>False
 |.pointer p=>match P.underlying t with
  |some (.array n e)=>ak (iS P e) (az p λa=>0<=i/\i<n/\K (.pointer (some (a.add (i.toNat*eB P e))))) False
  |_=>False
 |_=>False
def anX{P:Program}{t:TypeId}{x i:Value}{K:Value->Prop}(h:Z6 P t x i K):∃v,K v/\∀w,(Instr.indexAt t x i).run P w=.ok v w:=by
 obtain⟨k,i,rfl,h'⟩:=Lj h;clear h;have h:=h';clear h';split at h
 .split at h
  .rename_i e ht
   obtain⟨hi,h⟩:=dR h;obtain⟨h0,h1,h⟩:=h;obtain⟨a,rfl,hk⟩:=aKT h;refine⟨_,hk,λw=>?_⟩;simp only[Instr.indexAt,asIntOf,Sem.run_bind,Sem.run_pure,Result.andThen_ok,run_underlying ht,aR (And.intro h0 h1),pM hi]
  .exact h.elim
 .split at h
  .rename_i n e ht
   obtain⟨hi,h⟩:=dR h;obtain⟨a,rfl,h0,h1,hk⟩:=aKT h;refine⟨_,hk,λw=>?_⟩;simp only[Instr.indexAt,Instr.sureAddr,asIntOf,Sem.run_bind,Sem.run_pure,Result.andThen_ok,run_underlying ht,aR (And.intro h0 h1),pM hi]
  .exact h.elim
 .exact h.elim
def Rp(P:Program)(s:TypeId)(x:Value)(f:Nat)(K:Value->Prop):Prop:=match P.underlying s with
 |some (.struct ⟨fs⟩)=>match fs[f]? with
  |some fl=>ak (iS P fl.type) (ak (Nat.beq (eB P fl.type) 0) False (yg x λa=>K (.pointer (some (a.add fl.offset))))) False
  |none=>False
 |_=>False
def anY{P:Program}{s:TypeId}{x:Value}{f:Nat}{K:Value->Prop}(h:Rp P s x f K):∃v,K v/\∀w,(Instr.fieldAt s x f).run P w=.ok v w:=by
 unfold Rp at h;split at h
 .rename_i fs hu
  split at h
  .rename_i fl hf
   obtain⟨hi,h⟩:=dR h;rw[aIs]at h;cases hz:Nat.beq (eB P fl.type) 0 with
   |true=>exact(h.1 hz).elim
   |false=>
    obtain⟨a,rfl,hk⟩:=BA (h.2 hz);refine⟨_,hk,λw=>?_⟩;have hne:¬eB P fl.type=0:=λe=>by rw[e]at hz;cases hz
    simp only[Instr.fieldAt,Instr.sureAddr,Sem.run_bind,Sem.run_pure,Result.andThen_ok,run_underlying hu,Be,hf,fieldPlace,pM hi,aL hne]
  .exact h.elim
 .exact h.elim
def Tq(P:Program)(s:TypeId)(x:Value)(f:Nat)(K:Value->Prop):Prop:=match P.underlying s,x with
 |some (.struct ⟨fs⟩),.agg ⟨cs⟩=>match fs[f]? with
  |some fl=>match P.underlying fl.type with
   |some (.struct _)|some (.array _ _)=>ak (iS P fl.type) (K (.agg ⟨(cs.drop fl.offset).take (eB P fl.type)⟩)) False
   |some _=>sH cs fl.offset K
   |none=>False
  |none=>False
 |_,_=>False
def aqx{P:Program}{s:TypeId}{x:Value}{f:Nat}{K:Value->Prop}(h:Tq P s x f K):∃v,K v/\∀w,(Instr.field s x f).run P w=.ok v w:=by
 unfold Tq at h;split at h
 .rename_i fs cs hu
  split at h
  .rename_i fl hf
   have eZ:∀d,P.underlying fl.type=some d->Aw d=true->ak (iS P fl.type) (K (.agg ⟨(cs.drop fl.offset).take (eB P fl.type)⟩)) False->∃v,K v/\∀w,(Instr.field s (.agg ⟨cs⟩) f).run P w=.ok v w:=by
    intro d hd ha h;obtain⟨hi,h⟩:=dR h;refine⟨_,h,λw=>?_⟩;have h3:=Dz hd w;rw[ha]at h3;have hx:(Array.mk cs).extract fl.offset (fl.offset+eB P fl.type)=⟨(cs.drop fl.offset).take (eB P fl.type)⟩:=by apply jL;simp[OG]
    simp only[Instr.field,asAgg,part,Sem.run_bind,Sem.run_pure,Result.andThen_ok,run_underlying hu,Be,hf,h3,oV,pM hi,hx]
   split at h
   .rename_i hd;exact eZ _ hd rfl h
   .rename_i hd;exact eZ _ hd rfl h
   .rename_i d hs ha hd
    obtain⟨v,hv,hk⟩:=xM h;refine⟨v,hk,λw=>?_⟩;have h3:=Dz hd w;have h4:Aw d=false:=by
     cases d<;>first|rfl|skip
     .rename_i n e;exact(ha n e rfl).elim
     .rename_i fs;exact(hs fs rfl).elim
    rw[h4]at h3;simp only[Instr.field,asAgg,part,Sem.run_bind,Sem.run_pure,Result.andThen_ok,run_underlying hu,Be,hf,h3,kP,iR,hv]
   .exact h.elim
  .exact h.elim
 .exact h.elim
def af5(x:Value)(K:Value->Prop):Prop:=match x with
 |.pointer p=>az p λa=>K (.pointer (some a))
 |.func (.func f) first cap=>K (.func (.func f) first cap)
 |_=>False
def SK(P:Program)(to:TypeId)(x:Value)(K:Value->Prop):Prop:=match P.underlying to with
 |some (.interface _)=>False
 |some _=>match x with
  |.iface t v=>ak (Nat.beq t to) (K v) False
  |_=>False
 |none=>False
def apu{P:Program}{from_ to:TypeId}{x:Value}{K:Value->Prop}(h:SK P to x K):∃v,K v/\∀w,(Instr.typeAssert x from_ to false).run P w=.ok v w:=by
 unfold SK at h;split at h
 .exact h.elim
 .rename_i d hn hu
  split at h
  .rename_i t v
   obtain⟨hb,hk⟩:=dR h;obtain rfl:=aIT hb;refine⟨v,hk,λw=>?_⟩;simp only[Instr.typeAssert,Sem.run_bind,run_underlying hu,Result.andThen_ok];cases d<;>first|(simp;done)|(rename_i ms;exact(hn ms rfl).elim)
  .exact h.elim
 .exact h.elim
def ab9(x:Value)(i:Nat)(K:Value->Prop):Prop:=match x with
 |.tuple ⟨vs⟩=>sH vs i K
 |_=>False
def ad_(P:Program)(t:TypeId)(x:Value)(K:Value->Prop):Prop:=match P.underlying t with
 |some (.interface _)=>False
 |some _=>K (.iface t x)
 |none=>False
def ae3(c a b:Value)(K:Value->Prop):Prop:=match c with
 |.bool c=>ak c (K a) (K b)
 |_=>False
def Sc(P:Program)(b:Builtin)(ts:List TypeId)(vs:List Value)(K:Value->Prop):Prop:=match b,ts,vs with
 |.len,[t],[.string ⟨⟨s⟩⟩]=>match P.underlying t with
  |some .string=>K (.int .i64 s.length)
  |_=>False
 |.len,[t],[.slice _ n _]=>match P.underlying t with
  |some (.slice _)=>K (.int .i64 n)
  |_=>False
 |.cap,[t],[.slice _ _ c]=>match P.underlying t with
  |some (.slice _)=>K (.int .i64 c)
  |_=>False
 |.unsafeSliceData,_,[.slice p _ c]=>(p=none\/c≠0)/\K (.pointer p)
 |.max,_,[.int k x,.int _ y]=>K (.int k (if y>x then y else x))
 |.min,_,[.int k x,.int _ y]=>K (.int k (if y<x then y else x))
 |_,_,_=>False
def aoO{P:Program}{b:Builtin}{ts:List TypeId}{t:TypeId}{cs:Array Bool}{vs:List Value}{K:Value->Prop}(h:Sc P b ts vs K):
  ∃v,K v/\∀w,(builtin b ⟨ts⟩ t cs ⟨vs⟩).run P w=.ok (.value v) w:=by
 unfold Sc at h;split at h
 .split at h
  .rename_i hu
   refine⟨_,h,λw=>?_⟩;have hl:=λw s=>run_len_string (P:=P) w _ t (S s) hu;simp only[builtin,Sem.run_bind,hl,Result.andThen_ok,Sem.run_pure];rfl
  .exact h.elim
 .split at h
  .rename_i hu
   refine⟨_,h,λw=>?_⟩;simp[builtin,Builtin.len_,run_underlying hu,goInt]
  .exact h.elim
 .split at h
  .rename_i hu
   refine⟨_,h,λw=>?_⟩;simp[builtin,Builtin.cap_,run_underlying hu,goInt]
  .exact h.elim
 .rename_i p n c
  obtain⟨h0,h⟩:=h;refine⟨_,h,λw=>?_⟩;have e:(Builtin.unsafeSliceData_ ⟨ts⟩ t #[.slice p n c]).run P w=.ok (.pointer p) w:=by
   cases p with
   |none=>exact Lib.run_unsafeSliceData_nil w _ _ _ _
   |some a=>exact Lib.run_unsafeSliceData_row w _ _ _ _ _ (by simpa using h0)
  simp only[builtin,Sem.run_bind,e,Result.andThen_ok,Sem.run_pure]
 .refine⟨_,h,λw=>?_⟩
  simp[builtin,Builtin.max_,Builtin.max2]
 .refine⟨_,h,λw=>?_⟩
  simp[builtin,Builtin.min_,Builtin.min2]
 .exact h.elim
def cellsOf:Value->List Value
 |.agg ⟨cs⟩=>cs
 |v=>[v]
def aKe(v:Value):v.cells=⟨cellsOf v⟩:=by cases v<;>rfl
def zeroOf(P:Program)(t:TypeId):List Value:=match P.info? t with
 |some i=>match i.zero with
  |some z=>cellsOf z
  |none=>[]
 |none=>[]
def aK3(P:Program)(t:TypeId):Bool:=match P.info? t with
 |some i=>match i.zero with
  |some _=>true
  |none=>false
 |none=>false
def ZA{P:Program}{t:TypeId}(h:aK3 P t=true):∃i z,P.info? t=some i/\i.zero=some z/\cellsOf z=zeroOf P t:=by
 unfold aK3 at h;unfold zeroOf;cases hi:P.info? t with
 |none=>simp[hi]at h
 |some i=>
  cases hz:i.zero with
  |none=>simp[hi,hz]at h
  |some z=>exact⟨i,z,rfl,hz,by simp[hz]⟩
def Ll{P:Program}{t:TypeId}(h:aK3 P t=true):∃z,cellsOf z=zeroOf P t/\∀w,(zeroValue t).run P w=.ok z w:=by obtain⟨i,z,hi,hz,hc⟩:=ZA h;exact⟨z,hc,λw=>by simp[zeroValue,typeInfo,hi,hz]⟩
def SL(l:Fr):Nat->List Value->(Fr->Prop)->Prop
 |_,[],K=>K l
 |n,v::r,K=>wL l n v λl'=>SL l' (n+1) r K
def yG(l:Fr):Nat->List Value->Fr
 |_,[]=>l
 |n,v::r=>yG (l.set n v) (n+1) r
def apv{vs:List Value}:∀{l:Fr} {n:Nat} {K:Fr->Prop},SL l n vs K->K (yG l n vs):=by
 induction vs with
 |nil=>intro l n K h;exact h
 |cons v r ih=>intro l n K h;exact ih (Bz h)
def atV(vs:List Value):∀(l:Fr) (off k:Nat),((vs.zipIdx k).foldl (λ(cs:Array Value) (x:Value×Nat)=>cs.setIfInBounds (off+x.2) x.1) ⟨l⟩)=⟨yG l (off+k) vs⟩:=by
 induction vs with
 |nil=>intro l off k;rfl
 |cons v r ih=>intro l off k;simp only[List.zipIdx_cons,vQ,yG,OC];have:=ih (l.set (off+k) v) off (k+1);rwa[<-FN]at this
def aba(vs:List Value)(l:Fr)(off:Nat):(((Array.mk vs).zipIdx).foldl (λ(cs:Array Value) (x:Value×Nat)=>cs.setIfInBounds (off+x.2) x.1) ⟨l⟩)=⟨yG l off vs⟩:=by
 have h1:(Array.mk vs).zipIdx=⟨vs.zipIdx⟩:=by apply jL;simp
 rw[h1];have:=atV vs l off 0;simpa using this
def aK4(P:Program)(t:TypeId):Bool:=Nat.beq (eB P t) 1&&match HZ P t with
 |.leaf _=>true
 |_=>false
def apw{P:Program}{t:TypeId}(h:aK4 P t=true):eB P t=1:=by unfold aK4 at h;rw[eC]at h;exact aIT h.1
def B2(place:Nat->Option (Nat×Nat))(lf:Nat->Bool):Fr->List (Nat×Value)->(Fr->Prop)->Prop
 |l,[],K=>K l
 |l,(i,v)::r,K=>match place i with
  |some (off,size)=>ak (lf i&&Nat.beq size 1) (ak (Nat.ble (off+1) l.length) (ak v.oneCell' (wL l off v λl'=>B2 place lf l' r K) False) False)
    (ak (Nat.beq (cellsOf v).length size&&Nat.ble (off+(cellsOf v).length) l.length) (SL l off (cellsOf v) λl'=>B2 place lf l' r K) False)
  |none=>False
def Rb{v:Value}(h:v.oneCell'=true):cellsOf v=[v]:=by cases v<;>first|rfl|(simp[Value.oneCell']at h)
def RQ{place:Nat->Option (Nat×Nat)}{lf:Nat->Bool}{parts:List (Nat×Value)}:∀{l:Fr} {K:Fr->Prop},B2 place lf l parts K->∃l',Instr.fill place ⟨l⟩ parts=some ⟨l'⟩/\K l':=by
 induction parts with
 |nil=>intro l K h;exact⟨l,rfl,h⟩
 |cons x r ih=>
  intro l K h;obtain⟨i,v⟩:=x;simp only[B2]at h;split at h
  .rename_i off size hp
   obtain⟨h1,h2,l',h3,h4⟩:(cellsOf v).length=size/\off+(cellsOf v).length<=l.length/\∃l',Instr.fill place ⟨yG l off (cellsOf v)⟩ r=some ⟨l'⟩/\K l':=by
    rw[aIs]at h;cases hs:lf i&&Nat.beq size 1 with
    |true=>obtain⟨hb,h⟩:=dR (h.1 hs);obtain⟨h1,h⟩:=dR h;obtain⟨l',h3,h4⟩:=ih (Bz h);rw[Rb h1];rw[eC]at hs;exact⟨(aIT hs.2).symm,OY hb,l',h3,h4⟩
    |false=>obtain⟨hb,h⟩:=dR (h.2 hs);rw[eC]at hb;obtain⟨l',h3,h4⟩:=ih (apv h);exact⟨aIT hb.1,OY hb.2,l',h3,h4⟩
   refine⟨l',?_,h4⟩;have h5:¬(off+(cellsOf v).length>l.length):=by omega
   simp only[Instr.fill,hp,aKe,xz,ne_eq,h1,aLZ,Qv,vT];rw[aL (by simpa[h1]using h2)];rw[aba];exact h3
  .exact h.elim
def LU(l:Fr):List (Nat×Operand)->(List (Nat×Value)->Prop)->Prop
 |[],K=>K []
 |(i,x)::r,K=>cO l x λv=>LU l r λvs=>K ((i,v)::vs)
def Z7{l:Fr}{ds:List Deferred}{xs:List (Nat×Operand)}{K:List (Nat×Value)->Prop}(h:LU l xs K):K (xs.map λx=>(x.1,(act l ds).eval x.2)):=by
 induction xs generalizing K with
 |nil=>exact h
 |cons x r ih=>exact ih (cL (ds:=ds) h)
def GH(P:Program):List Field->Bool
 |[]=>true
 |f::r=>iS P f.type&&GH P r
def placeOf(P:Program)(fs:List Field)(i:Nat):Option (Nat×Nat):=match fs[i]? with
 |some f=>some (f.offset,eB P f.type)
 |none=>none
def Tr(P:Program)(t:TypeId)(parts:List (Nat×Value))(K:Value->Prop):Prop:=match P.underlying t with
 |some (.struct ⟨fs⟩)=>ak (GH P fs&&aK3 P t) (B2 (placeOf P fs) (λi=>match fs[i]? with|some f=>aK4 P f.type|none=>false) (zeroOf P t) parts λl=>K (.agg ⟨l⟩)) False
 |some (.array _ e)=>ak (iS P e&&aK3 P t) (B2 (λi=>some (i*eB P e,eB P e)) (λ_=>aK4 P e) (zeroOf P t) parts λl=>K (.agg ⟨l⟩)) False
 |_=>False
def aqy{P:Program}{fs:List Field}(h:GH P fs=true)(w:World):
  ((Array.mk fs).mapM λf=>(do pure (f.offset,<-sizeOf f.type):Sem (Nat×Nat))).run P w=.ok ⟨fs.map λf=>(f.offset,eB P f.type)⟩ w:=by
 rw[Jy];simp only[Sem.run_map];have:∀fs:List Field,GH P fs=true->(fs.mapM λf=>(do pure (f.offset,<-sizeOf f.type):Sem (Nat×Nat))).run P w=.ok (fs.map λf=>(f.offset,eB P f.type)) w:=by
  intro fs
  induction fs with
  |nil=>intro _;rfl
  |cons f r ih=>intro h;simp only[GH,eC]at h;simp only[aKt,Sem.run_bind,pM h.1,Result.andThen_ok,Sem.run_pure,ih h.2,fW]
 rw[this fs h];rfl
def aqz{P:Program}{t:TypeId}{parts:List (Nat×Value)}{K:Value->Prop}(h:Tr P t parts K):∃v,K v/\∀w,(Instr.build t ⟨parts⟩).run P w=.ok v w:=by
 unfold Tr at h;split at h
 .rename_i fs hu
  obtain⟨hb,h⟩:=dR h;rw[eC]at hb;obtain⟨z,hz,hr⟩:=Ll hb.2;obtain⟨l',h1,h2⟩:=RQ h;refine⟨_,h2,λw=>?_⟩;have hpl:(λx:Nat=>(Array.mk (fs.map λf=>(f.offset,eB P f.type)))[x]?)=placeOf P fs:=by funext i;simp only[placeOf,Be,vM];cases fs[i]?<;>rfl
  simp only[Instr.build,Sem.run_bind,hr,Result.andThen_ok,run_underlying hu,aqy hb.1,hpl,aKe,hz,h1,Sem.run_pure]
 .rename_i n e hu
  obtain⟨hb,h⟩:=dR h;rw[eC]at hb;obtain⟨z,hz,hr⟩:=Ll hb.2;obtain⟨l',h1,h2⟩:=RQ h;refine⟨_,h2,λw=>?_⟩;simp only[Instr.build,Sem.run_bind,hr,Result.andThen_ok,run_underlying hu,pM hb.1,aKe,hz,h1,Sem.run_pure]
 .exact h.elim
def sO(P:Program)(l:Fr)(o:Oper)(Rd:Addr->Value->Prop)(K:Value->Prop):Prop:=match o.op with
 |.move x|.assign x=>cO l x K
 |.pick c a b=>cO l c λc=>cO l a λa=>cO l b λb=>ae3 c a b K
 |.load t x=>cO l x λx=>yg x λa=>Mb P t a Rd K
 |.nilCheck x=>cO l x λx=>af5 x K
 |.binOp op t x (.const .nilIface) _=>cO l x λv=>ak (DQ P t) (Af op v λb=>K (.bool b)) False
 |.binOp op t x y _=>cO l x λx=>cO l y λy=>Mz P op t x y K
 |.unOp op _ x=>cO l x λx=>Vh op x K
 |.convert s d x=>cO l x λx=>D1 P s d x Rd K
 |.slice t x lo hi none=>cO l x λx=>(match lo with
  |none=>match hi with
   |none=>BK P t x none none K
   |some hi=>cO l hi λhi=>BK P t x none (some hi) K
  |some lo=>cO l lo λlo=>match hi with
   |none=>BK P t x (some lo) none K
   |some hi=>cO l hi λhi=>BK P t x (some lo) (some hi) K)
 |.fieldAddr s x f=>cO l x λx=>Rp P s x f K
 |.field s x f=>cO l x λx=>Tq P s x f K
 |.indexAddr t x i=>cO l x λx=>cO l i λi=>Z6 P t x i K
 |.index t x i=>cO l x λx=>cO l i λi=>ad9 P t x i K
 |.extract x i=>cO l x λx=>ab9 x i K
 |.typeAssert x _ to false=>cO l x λx=>SK P to x K
 |.makeInterface t x=>cO l x λx=>ad_ P t x K
 |.makeFunc fn ⟨first⟩ ⟨cap⟩=>wM l first λfirst=>wM l cap λcap=>K (.func fn ⟨first⟩ ⟨cap⟩)
 |.call ⟨.builtin b,⟨xs⟩,⟨ts⟩⟩=>wM l xs λvs=>Sc P b ts vs K
 |.build t ⟨parts⟩=>LU l parts λps=>Tr P t ps K
 |_=>False
def pU{s:Sem Value}{P:Program}{v:Value}{w:World}(h:s.run P w=.ok v w):(do pure (Next.value (<-s)):Sem Next).run P w=.ok (.value v) w:=by simp only[Sem.run_bind,h,Result.andThen_ok,Sem.run_pure]
def aK5{P:Program}{l:Fr}{ds:List Deferred}{o:Oper}{Rd:Addr->Value->Prop}{K:Value->Prop}(h:sO P l o Rd K):
  ∃v,K v/\∀w,Ca Rd w->(execOp (act l ds).eval o).run P w=.ok (.value v) w:=by
 unfold sO at h;split at h
 .rename_i x ho
  exact⟨_,cL (ds:=ds) h,λw _=>by simp only[execOp,ho,Sem.run_pure]⟩
 .rename_i x ho
  exact⟨_,cL (ds:=ds) h,λw _=>by simp only[execOp,ho,Sem.run_pure]⟩
 .rename_i c a b ho
  have h:=cL (ds:=ds) (cL (ds:=ds) (cL (ds:=ds) h));unfold ae3 at h;split at h
  .rename_i x c hc
   rw[aIs]at h;cases c
   .exact⟨_,h.2 rfl,λw _=>by simp only[execOp,ho,hc,asBool,Sem.run_bind,Sem.run_pure,Result.andThen_ok,kP,iR]⟩
   .exact⟨_,h.1 rfl,λw _=>by simp only[execOp,ho,hc,asBool,Sem.run_bind,Sem.run_pure,Result.andThen_ok,oV]⟩
  .exact h.elim
 .rename_i t x ho
  obtain⟨a,ha,h⟩:=BA (cL (ds:=ds) h);obtain⟨v,hk,hr⟩:=aa5 h;refine⟨v,hk,λw hw=>?_⟩;simp only[execOp,ho,ha];exact pU (by simp only[Instr.loadAt,Instr.sureAddr,Sem.run_bind,Sem.run_pure,Result.andThen_ok,hr w hw])
 .rename_i x ho
  have h:=cL (ds:=ds) h;unfold af5 at h;split at h
  .rename_i y p hx
   obtain⟨a,rfl,hk⟩:=aKT h;exact⟨_,hk,λw _=>by simp only[execOp,ho,hx,Sem.run_pure]⟩
  .rename_i y f first cap hx
   exact⟨_,h,λw _=>by simp only[execOp,ho,hx,Sem.run_pure]⟩
  .exact h.elim
 .rename_i op t x yt ho
  obtain⟨hb,h⟩:=dR (cL (ds:=ds) h);obtain⟨b,hk,hr⟩:=asd hb h;refine⟨_,hk,λw _=>?_⟩;simp only[execOp,ho];refine pU ?_;have hg:(eqGuard op t x (.const .nilIface) ((act l ds).eval x) ((act l ds).eval (.const .nilIface))).run P w=.ok () w:=by
   show(eqGuard op t x (.const .nilIface) ((act l ds).eval x) .nilIface).run P w=.ok () w;unfold eqGuard;cases op<;>first|rfl|skip
   all_goals(generalize(act l ds).eval x=vx;cases vx<;>simp)
  have hr':(binOp op t ((act l ds).eval x) ((act l ds).eval (.const .nilIface))).run P w=.ok (.bool b) w:=hr w;simp only[Sem.run_bind,hg,Sem.run_pure,Result.andThen_ok,hr']
 .rename_i op t x y yt _ ho
  obtain⟨v,hk,hr⟩:=atU (P:=P) (cL (ds:=ds) (cL (ds:=ds) h));refine⟨v,hk,λw _=>?_⟩;simp only[execOp,ho];refine pU ?_;have hg:(eqGuard op t x y ((act l ds).eval x) ((act l ds).eval y)).run P w=.ok () w:=by
   have h:=cL (ds:=ds) (cL (ds:=ds) h);unfold Mz at h;split at h
   .rename_i e
    rw[e];generalize(act l ds).eval x=vx;unfold eqGuard;cases op<;>first|rfl|(cases vx<;>simp)
   .unfold Mc at h
    split at h<;>rename_i e1 e2<;>first
     |(rw[e1];cases op<;>rfl)
     |exact h.elim
     |(rw[e1,e2];exact run_eqGuard_agg w op t x y _ _ (Zx h).1)
  simp only[Sem.run_bind,hg,Sem.run_pure,Result.andThen_ok,hr w]
 .rename_i op t x ho
  obtain⟨v,hk,hr⟩:=avw (P:=P) (cL (ds:=ds) h);exact⟨v,hk,λw _=>by simp only[execOp,ho];exact pU (hr w)⟩
 .rename_i s d x ho
  obtain⟨v,hk,hr⟩:=aa7 (P:=P) (cL (ds:=ds) h);exact⟨v,hk,λw hw=>by simp only[execOp,ho];exact pU (hr w hw)⟩
 .rename_i t x lo hi ho
  have h:=cL (ds:=ds) h;have h':BK P t ((act l ds).eval x) (lo.map (act l ds).eval) (hi.map (act l ds).eval) K:=by
   cases lo with
   |none=>cases hi with
    |none=>exact h
    |some hi=>exact cL (ds:=ds) h
   |some lo=>
    have h:=cL (ds:=ds) h;cases hi with
    |none=>exact h
    |some hi=>exact cL (ds:=ds) h
  obtain⟨v,hk,hr⟩:=aqv h';exact⟨v,hk,λw _=>by simp only[execOp,ho,P6];exact pU (hr w)⟩
 .rename_i s x f ho
  obtain⟨v,hk,hr⟩:=anY (cL (ds:=ds) h);exact⟨v,hk,λw _=>by simp only[execOp,ho];exact pU (hr w)⟩
 .rename_i s x f ho
  obtain⟨v,hk,hr⟩:=aqx (cL (ds:=ds) h);exact⟨v,hk,λw _=>by simp only[execOp,ho];exact pU (hr w)⟩
 .rename_i t x i ho
  obtain⟨v,hk,hr⟩:=anX (cL (ds:=ds) (cL (ds:=ds) h));exact⟨v,hk,λw _=>by simp only[execOp,ho];exact pU (hr w)⟩
 .rename_i t x i ho
  obtain⟨v,hk,hr⟩:=aqw (cL (ds:=ds) (cL (ds:=ds) h));exact⟨v,hk,λw _=>by simp only[execOp,ho];exact pU (hr w)⟩
 .rename_i x i ho
  have h:=cL (ds:=ds) h;unfold ab9 at h;split at h
  .rename_i y vs hx
   obtain⟨v,hv,hk⟩:=xM h;exact⟨v,hk,λw _=>by simp only[execOp,ho,hx];exact pU (by simp only[Instr.extract,Be,hv,Sem.run_pure])⟩
  .exact h.elim
 .rename_i x tf to ho
  obtain⟨v,hk,hr⟩:=apu (P:=P) (from_:=tf) (cL (ds:=ds) h);exact⟨v,hk,λw _=>by simp only[execOp,ho];exact pU (hr w)⟩
 .rename_i t x ho
  have h:=cL (ds:=ds) h;unfold ad_ at h;split at h
  .exact h.elim
  .rename_i d hn hu
   refine⟨_,h,λw _=>?_⟩;simp only[execOp,ho];refine pU ?_;simp only[Instr.makeInterface,Sem.run_bind,run_underlying hu,Result.andThen_ok];cases d<;>first|rfl|(rename_i ms;exact(hn ms rfl).elim)
  .exact h.elim
 .rename_i fn first cap ho
  have h:=aK0 (ds:=ds) (aK0 (ds:=ds) h);refine⟨_,h,λw _=>?_⟩;simp only[execOp,ho];refine pU ?_;simp only[Instr.makeFunc,Sem.run_pure,xA]
 .rename_i b xs ts ho
  have h:=aK0 (ds:=ds) h;obtain⟨v,hk,hr⟩:=aoO (P:=P) (t:=o.type) (cs:=(Array.mk xs).map λ|.const _=>true|_=>false) h;refine⟨v,hk,λw _=>?_⟩;simp only[execOp,ho,resolve,invoke,Sem.run_bind,Sem.run_pure,Result.andThen_ok,xA]at hr⊢;exact hr w
 .rename_i t parts ho
  obtain⟨v,hk,hr⟩:=aqz (Z7 (ds:=ds) h);refine⟨v,hk,λw _=>?_⟩;simp only[execOp,ho];refine pU ?_;have:=hr w;simpa[xA]using this
 .exact h.elim
abbrev KW:=Value->World->Prop
def Wr(w:World)(a:Addr):Prop:=(w.cell? a).isSome=true/\w.frozen? a=false
def cJ(a:Addr)(K:World->Prop):Nat->List Value->World->Prop
 |_,[],w=>K w
 |i,v::r,w=>ak v.oneCell' (Wr w (a.add i)/\cJ a K (i+1) r (w.setCell (a.add i) v)) False
def asg{P:Program}{w:World}{a:Addr}{v:Value}(hv:v.oneCell'=true)(h:Wr w a):(store a v).run P w=.ok () (w.setCell a v):=by
 rw[run_store P w a v _ hv];obtain⟨h1,h2⟩:=h;cases hc:w.cell? a with
 |none=>simp[hc]at h1
 |some u=>simp[h2]
def ZB{P:Program}{a:Addr}{K:World->Prop}{vs:List Value}:∀{i:Nat} {w:World},cJ a K i vs w->∃w',(storeCells a vs i).run P w=.ok () w'/\K w':=by
 induction vs with
 |nil=>intro i w h;exact⟨w,rfl,h⟩
 |cons v r ih=>intro i w h;obtain⟨hv,h1,h2⟩:=dR h;obtain⟨w',h3,h4⟩:=ih h2;exact⟨w',by simp only[storeCells,Sem.run_bind,asg hv h1,Result.andThen_ok,h3],h4⟩
def G4(P:Program)(t:TypeId)(a:Addr)(vs:List Value)(w:World)(K:World->Prop):Prop:=
 ak (iS P t) (ak (Nat.ble (eB P t) 16)
  (ak (Nat.beq vs.length (eB P t)) (cJ a K 0 vs w) False)
  (vs.length=eB P t/\(∀v∈vs,v.oneCell'=true)/\∃(g o:Nat) (cur:List Value) (e:TypeId),a=⟨g,o,none⟩/\Row w g e ⟨cur⟩/\o+vs.length<=cur.length/\
   K (w.setRow g ⟨cur.take o++(vs++cur.drop (o+vs.length))⟩))) False
def aqA{P:Program}{t:TypeId}{a:Addr}{v:Value}{w:World}{K:World->Prop}(h:G4 P t a (cellsOf v) w K):∃w',(storeVar t a v).run P w=.ok () w'/\K w':=by
 obtain⟨hi,h⟩:=dR h;have fin:∀w',(cellsOf v).length=eB P t->(storeCells a (cellsOf v)).run P w=.ok () w'->(storeVar t a v).run P w=.ok () w':=by intro w' hl hr;simp only[storeVar,Sem.run_bind,pM hi,Result.andThen_ok,aKe,xz,hl,ne_eq,aLZ,iR,hr]
 rw[aIs]at h;cases hb:Nat.ble (eB P t) 16 with
 |true=>obtain⟨hl,h⟩:=dR (h.1 hb);obtain⟨w',h1,h2⟩:=ZB (P:=P) h;exact⟨w',fin w' (aIT hl) h1,h2⟩
 |false=>obtain⟨hl,h1,g,o,cur,e,rfl,hg,hf,hk⟩:=h.2 hb;refine⟨_,fin _ hl ?_,hk⟩;have:=aLn P g o e (cellsOf v) 0 ⟨cur⟩ w hg (by simpa using hf) h1;rw[this];simp[mL]
def aLN(P:Program)(t:TypeId)(v:Value):List Value:=bif aK4 P t then[v]else cellsOf v
def aqB{P:Program}{t:TypeId}{a:Addr}{v:Value}{w:World}{K:World->Prop}(h:G4 P t a (aLN P t v) w K):G4 P t a (cellsOf v) w K:=by
 unfold aLN at h;cases hs:aK4 P t with
 |false=>rw[hs]at h;exact h
 |true=>
  rw[hs]at h;have h':G4 P t a [v] w K:=h
  suffices hv:v.oneCell'=true by rw[Rb hv];exact h'
  obtain⟨_,h⟩:=dR h';rw[aIs]at h;have hb:Nat.ble (eB P t) 16=true:=by rw[apw hs];rfl
  obtain⟨_,h⟩:=dR (h.1 hb);exact(dR h).1
def sI(zs:List Value):Nat->List Value
 |0=>[]
 |n+1=>zs++sI zs n
def ZC(zs:List Value)(n:Nat):(sI zs n).length=n*zs.length:=by
 induction n with
 |zero=>simp[sI]
 |succ n ih=>simp[sI,ih,zy,Nat.add_comm]
def atW(zs:List Value)(n:Nat):∀i,i<n*zs.length->(sI zs n)[i]?=zs[i%zs.length]?:=by
 induction n with
 |zero=>intro i hi;simp at hi
 |succ n ih=>
  intro i hi;simp only[sI]
  by_cases h:i<zs.length
  .rw[vJ h,Nat.mod_eq_of_lt h]
  .have hz:zs.length<=i:=J3 h
   rw[zg hz,ih _ (by rw[zy]at hi;omega)];congr 1;have:i=(i-zs.length)+zs.length:=by omega
   rw[this,Nat.add_mod_right];simp
def Y1(zs:List Value)(n:Nat):madeCells ⟨zs⟩ (n*zs.length)=⟨sI zs n⟩:=by
 apply jL;apply aJc;intro i
 by_cases h:i<n*zs.length
 .rw[atW zs n i h]
  have hz:0<zs.length:=by
   rcases pK zs.length with h0|h0
   .rw[h0]at h;simp at h
   .exact h0
  have hm:i%zs.length<zs.length:=FZ _ hz;simp[madeCells,h,hm]
 .have h1:n*zs.length<=i:=J3 h
  rw[th (l:=(madeCells ⟨zs⟩ (n*zs.length)).toList) (by simpa[madeCells]using h1),th (l:=sI zs n) (by rw[ZC];exact h1)]
def ae4(P:Program)(t:TypeId)(n c:Value)(w:World)(K:KW):Prop:=Ee n λ_ n=>Ee c λ_ c=>match P.underlying t with
 |some (.slice e)=>match P.info? e with
  |some i=>match i.zero with
   |some z=>0<=n/\n<=c/\(i.bytes:Int)*c<=281474976710656/\c<=9223372036854775807/\
     K (.slice (some ⟨w.heap.size,0,none⟩) n.toNat c.toNat) (w.alloc (.cells (madeCells ⟨cellsOf z⟩ (c.toNat*i.size)) e))
   |none=>False
  |none=>False
 |_=>False
def ash{P:Program}{t:TypeId}{n c:Value}{w:World}{K:KW}(h:ae4 P t n c w K):∃v w',(Instr.makeSlice t n c).run P w=.ok v w'/\K v w':=by
 obtain⟨kn,n,rfl,h1⟩:=Lj h;obtain⟨kc,c,rfl,h2⟩:=Lj h1;clear h h1;have h:=h2;clear h2;split at h
 .rename_i e hu
  split at h
  .rename_i i hi
   split at h
   .rename_i z hz
    obtain⟨h0,h1,h2,h3,hk⟩:=h;have:=run_make (P:=P) w t e i z hu hi hz kn kc n c h0 h1 h2 h3;rw[aKe]at this;exact⟨_,_,this,hk⟩
   .exact h.elim
  .exact h.elim
 .exact h.elim
def adh:∀(vs l:Fr) (n:Nat),n+vs.length<=l.length->yG l n vs=l.take n++(vs++l.drop (n+vs.length))
 |[],l,n,_=>by simp[yG]
 |v::r,l,n,h=>by
  have h':n+1+r.length<=l.length:=by simp at h;omega
  rw[yG,adh r (l.set n v) (n+1) (by simpa using h')];apply aJc;intro j;simp only[JK,zk,Bl,eH,Df,Dd,bf,Pv]
  grind
def Sd(sz:Nat)(z:Fr)(len:Nat)(parts:List (Nat×Value))(K:Fr->Prop):Prop:=match len,parts with
 |1,[(0,.agg ⟨cs⟩)]=>ak (Nat.beq cs.length sz) (K cs) False
 |_,_=>B2 (λi=>some (i*sz,sz)) (λ_=>false) z parts K
def aoP{sz len:Nat}{z:Fr}{parts:List (Nat×Value)}{K:Fr->Prop}(hz:z.length=len*sz)(h:Sd sz z len parts K):∃l',Instr.fill (λi=>some (i*sz,sz)) ⟨z⟩ parts=some ⟨l'⟩/\K l':=by
 unfold Sd at h;split at h
 .rename_i cs
  obtain⟨hb,h⟩:=dR h;have hb:=aIT hb;refine⟨cs,?_,h⟩;simp only[Instr.fill,aKe,cellsOf,xz,Dl];rw[aL (by simp;omega),aba,adh _ _ _ (by omega)];have:z.length=cs.length:=by omega
  simp[<-this]
 .exact RQ h
def Rq(P:Program)(t:TypeId)(len:Nat)(parts:List (Nat×Value))(w:World)(K:KW):Prop:=match P.underlying t with
 |some (.slice e)=>ak (iS P e&&aK3 P e&&Nat.beq (zeroOf P e).length (eB P e)&& !Nat.beq (len*eB P e) 0&&Nat.ble (len*eB P e) 16777216)
   (Sd (eB P e) (sI (zeroOf P e) len) len parts λl=>K (.slice (some ⟨w.heap.size,0,none⟩) len len) (w.alloc (.cells ⟨l⟩ e))) False
 |_=>False
def anZ{P:Program}{t:TypeId}{len:Nat}{parts:List (Nat×Value)}{w:World}{K:KW}(h:Rq P t len parts w K):
  ∃v w',(Instr.buildSlice t len ⟨parts⟩).run P w=.ok v w'/\K v w':=by
 unfold Rq at h;split at h
 .rename_i e hu
  obtain⟨hb,h⟩:=dR h;simp only[eC,JX]at hb;obtain⟨⟨⟨⟨h1,h2⟩,h3⟩,h4⟩,h5⟩:=hb;obtain⟨z,hz,hr⟩:=Ll h2;have h3:=aIT h3;obtain⟨l',h6,h7⟩:=aoP (by rw[ZC,h3]) h;have h4:¬len*eB P e=0:=λhe=>by rw[he]at h4;cases h4
  have h5:=OY h5;refine⟨_,_,?_,h7⟩;have hcells:(Array.range (len*eB P e)).map (λi=>(Array.mk (zeroOf P e))[i%(Array.mk (zeroOf P e)).size]!)=⟨sI (zeroOf P e) len⟩:=by rw[<-Y1,h3];rfl
  have h5':¬(2^24<len*eB P e):=by omega
  simp only[Instr.buildSlice,Sem.run_bind,run_underlying hu,Result.andThen_ok,pM h1,gt_iff_lt,aL h5',aL h4,hr,aKe,hz,hcells,h6,Sem.run_pure,newRow];rfl
 .exact h.elim
def aLA(P:Program)(t:TypeId)(w:World)(K:KW):Prop:=match P.underlying t with
 |some (.slice e)=>ak (iS P e) (K (.slice (some ⟨w.heap.size,0,none⟩) 0 0) (w.alloc (.cells ⟨[]⟩ e))) False
 |_=>False
def Rc(P:Program)(t:TypeId)(len:Nat)(parts:List (Nat×Value))(w:World)(K:KW):Prop:=
 ak (Nat.beq len 0&&parts.isEmpty) (aLA P t w K) (Rq P t len parts w K)
def anD{P:Program}{t:TypeId}{len:Nat}{parts:List (Nat×Value)}{w:World}{K:KW}(h:Rc P t len parts w K):
  ∃v w',(Instr.buildSlice t len ⟨parts⟩).run P w=.ok v w'/\K v w':=by
 unfold Rc at h;cases hb:(Nat.beq len 0&&parts.isEmpty)with
 |false=>rw[hb]at h;exact anZ h
 |true=>
  rw[hb]at h;simp only[eC,J4]at hb;obtain⟨h0,rfl⟩:=hb;obtain rfl:=aIT h0;have h:aLA P t w K:=h;unfold aLA at h;split at h
  .rename_i e hu
   obtain⟨h1,h⟩:=dR h;refine⟨_,_,?_,h⟩;have hz:(Array.range 0).map (λi=>(#[]:Array Value)[i%(#[]:Array Value).size]!)=#[]:=by simp
   simp only[Instr.buildSlice,Sem.run_bind,run_underlying hu,Result.andThen_ok,pM h1,Dl,gt_iff_lt,Nat.not_lt_zero,oV,iR,Sem.run_pure,newRow,hz];rfl
  .exact h.elim
def aI4(p p':Option Addr)(n' c c' s:Nat):Prop:=(p'=p/\c'=c)\/((Value.slice p' n' c').ownBlock=some s/\0<n')
def aI4.own{p p':Option Addr}{n n' c c' s:Nat}(h:aI4 p p' n' c c' s):(Value.slice p' n' c').ownBlock=(Value.slice p n c).ownBlock\/(Value.slice p' n' c').ownBlock=some s:=by
 rcases h with⟨rfl,rfl⟩|⟨h,_⟩
 .exact .inl (by cases p'<;>rfl)
 .exact .inr h
def SM(P:Program)(t u:TypeId)(s x:Value)(w:World)(K:KW):Prop:=match s with
 |.slice p n c=>match P.underlying t with
  |some (.slice e)=>match P.info? e with
   |some i=>ak (aK3 P e&&Nat.beq (zeroOf P e).length i.size&& !Nat.beq i.size 0) (match x with
     |.slice q m _=>match P.underlying u with
      |some (.slice _)=>∃xs news:List Value,aV w 0 e i.size (.slice p n c) n xs/\news.length=m*i.size/\(∀u∈news,u.oneCell'=true)/\
        (0<m->∃a,q=some a/\∀j u,news[j]?=some u->w.cell? (a.add j)=some u)/\n+m<=9223372036854775807/\(n+m)*i.bytes<=140737488355328/\
        ∀(p':Option Addr) (c':Nat) (w':World),aV w' 0 e i.size (.slice p' (n+m) c') (n+m) (xs++news)->w.grownBy w' (Value.slice p n c).ownBlock->
         aI4 p p' (n+m) c c' w.heap.size->K (.slice p' (n+m) c') w'
      |_=>False
     |.string ⟨⟨b⟩⟩=>match P.underlying u with
      |some .string=>ak (Nat.beq i.size 1) (∃xs:List Value,aV w 0 e i.size (.slice p n c) n xs/\n+b.length<=9223372036854775807/\(n+b.length)*i.bytes<=140737488355328/\
        ∀(p':Option Addr) (c':Nat) (w':World),aV w' 0 e i.size (.slice p' (n+b.length) c') (n+b.length) (xs++b.map (λb=>Value.int .u8 b.toNat))->w.grownBy w' (Value.slice p n c).ownBlock->
         aI4 p p' (n+b.length) c c' w.heap.size->K (.slice p' (n+b.length) c') w') False
      |_=>False
     |_=>False) False
   |none=>False
  |_=>False
 |_=>False
def YM{P:Program}{w:World}{t u ty e:TypeId}{i:TypeInfo}{z:Value}(ht:P.underlying t=some (.slice e)){d:TypeDesc}(hu:P.underlying u=some d)(hd:∀k,d≠.int k)(hi:P.info? e=some i)(hz:i.zero=some z)
  (hzs:z.cells.size=i.size)(hsz:0<i.size){x:Value}{p:Option Addr}{n c m:Nat}{xs news:List Value}(hown:aV w 0 e i.size (.slice p n c) n xs)(hlen:∀w',(Builtin.lenOf x).run P w'=.ok m w')
  (hf:(Builtin.firstCells i.size m x).run P w=.ok ⟨news⟩ w)(Nj:(Builtin.firstCells i.size m x).run P w.drew=.ok ⟨news⟩ w.drew)(hl:news.length=m*i.size)(h1:∀u∈news,u.oneCell'=true)
  (h63:n+m<=9223372036854775807)(hbytes:(n+m)*i.bytes<=140737488355328):
  ∃p' c' w',(Builtin.append_ #[t,u] ty #[.slice p n c,x]).run P w=.ok (.slice p' (n+m) c') w'/\aV w' 0 e i.size (.slice p' (n+m) c') (n+m) (xs++news)/\w.grownBy w' (Value.slice p n c).ownBlock/\
   aI4 p p' (n+m) c c' w.heap.size:=by
 have hmax:n+m<=maxLen:=by simpa[maxLen]using h63
 have Nk:(xs++news).length=(n+m)*i.size:=by rw[aIa,hown.1,hl,zy]
 have hne:(match d with|.int _=>true|_=>false)=false:=by cases d<;>first|rfl|exact(hd _ rfl).elim
 have grown:∀(old:Nat) (row:Option Nat),
   aV (w.drew.alloc (.cells (xs.toArray++news.toArray++Builtin.zeroCells z.cells (grownCap w (n+m) old e-(n+m))) e)) 0 e i.size
    (.slice (some ⟨w.heap.size,0,none⟩) (n+m) (grownCap w (n+m) old e)) (n+m) (xs++news)/\
   w.grownBy (w.drew.alloc (.cells (xs.toArray++news.toArray++Builtin.zeroCells z.cells (grownCap w (n+m) old e-(n+m))) e)) row:=by
  intro old row;have hge:=grownCap_ge w (n+m) old e;have hcm:grownCap w (n+m) old e<=maxLen:=grownCap_le_maxLen w (n+m) old e hmax;refine⟨⟨Nk,.inr ⟨w.heap.size,_,_,rfl,dx _,Row.new w.drew e _,hge,hcm,?_,?_⟩⟩,⟨rfl,rfl,rfl,by simp,λk hk _=>Below.heap_alloc w.drew _ k hk⟩⟩
  .simp only[X_,xz,size_zeroCells,hzs,hown.1,hl,<-zy]
   congr 1;omega
  .simp only[XL,mL]
   rw[<-mL,<-Nk];exact List.take_left
 have h63':¬(9223372036854775807<((n:Int)+(m:Int))):=by omega
 rcases hown.2 with⟨hv,rfl⟩|⟨g,cap,cur,hv,_,hg,hnc,hcm,hcs,DZ⟩<;>(injection hv with hv1 _ AH;subst hv1;subst AH)
 .have hx:xs=[]:=mH (by simpa using hown.1)
  subst hx;rcases pK m with rfl|hm
  .have hn:news=[]:=mH (by simpa using hl)
   subst hn;refine⟨none,0,w,?_,by simpa using aV.nil w 0 e i.size,World.grownBy.refl w _,.inl ⟨rfl,rfl⟩⟩;simp[Builtin.append_,run_underlying ht,run_underlying hu,hne,sizeOf,typeInfo,hi,hlen,hf]
  .have hm0:m≠0:=by omega
   have axY:¬(9223372036854775807<(m:Int)):=by omega
   have aLR:¬(281474976710656<Builtin.nextslicecap m 0*i.bytes):=by
    rw[nextslicecap_zero hm];have:m*i.bytes<=140737488355328:=by simpa using hbytes
    omega
   have EE:=grown 0 (Value.ownBlock (.slice none 0 0));simp only[cE,zm,XU]at EE⊢;refine⟨_,_,_,?_,EE.1,EE.2,.inr ⟨rfl,by omega⟩⟩;simp[Builtin.append_,run_underlying ht,run_underlying hu,hne,sizeOf,typeInfo,zeroValue,hi,hz,hlen,hm0,axY,aLR,Question.forced,run_firstCells_none,Nj,newRow,grownCap]
 ·by_cases hroom:n+m<=c
  .have hfit:n*i.size+news.length<=cur.size:=by rw[hl,hcs,<-zy];exact O5 _ hroom
   have hst:=aLn P g (n*i.size) e news 0 cur w hg (by simpa using hfit) h1;simp only[FO]at hst;have hsize:(cur.toList.take (n*i.size)++news++cur.toList.drop (n*i.size+news.length)).toArray.size=cur.size:=by simp only[xz,aIa,eH,jx,JP];omega
   refine⟨some ⟨g,0,none⟩,c,w.setRow g (cur.toList.take (n*i.size)++news++cur.toList.drop (n*i.size+news.length)).toArray,?_,
    ⟨Nk,.inr ⟨g,c,_,rfl,dx _,hg.setRow _ hsize,hroom,hcm,by rw[hsize,hcs],?_⟩⟩,⟨rfl,rfl,rfl,by simp,λk _ hk=>setRow_other w g k _ (λe=>hk (by simp[Value.ownBlock,e]))⟩,.inl ⟨rfl,rfl⟩⟩
   .simp[Builtin.append_,run_underlying ht,run_underlying hu,hne,sizeOf,typeInfo,hi,hlen,hroom,hf,Addr.add_lit,hst]
   .rw[DZ,<-Nk]
    exact List.take_left
  .have EE:=grown c (Value.ownBlock (.slice (some ⟨g,0,none⟩) n c))
   have hfo:=run_firstCells_some (P:=P) w.drew i.size n ⟨g,0,none⟩ n c xs hown.1 (λj u hu=>by
    have:=hown.cells (g:=g) rfl j u hu;have e:(⟨g,0,none⟩:Addr).add j=⟨g,j,none⟩:=by unfold Addr.add;split<;>simp_all
    rw[e];exact this)
   have aLR:¬(281474976710656<Builtin.nextslicecap (n+m) c*i.bytes):=by have:=growslice_fits (need:=n+m) (old:=c) (by omega) hbytes;omega
   refine⟨_,_,_,?_,EE.1,EE.2,.inr ⟨rfl,by omega⟩⟩;simp[Builtin.append_,run_underlying ht,run_underlying hu,hne,sizeOf,typeInfo,zeroValue,hi,hz,hlen,hroom,h63',aLR,Question.forced,Nj,hfo,newRow,grownCap];congr 2;apply jL;simp[mL]
def apx{P:Program}{t u ty:TypeId}{s x:Value}{w:World}{K:KW}(h:SM P t u s x w K):∃v w',(Builtin.append_ #[t,u] ty #[s,x]).run P w=.ok v w'/\K v w':=by
 unfold SM at h;split at h
 .rename_i p n c
  split at h
  .rename_i e ht
   split at h
   .rename_i i hi
    obtain⟨hb,h⟩:=dR h;simp only[eC,JX]at hb;obtain⟨⟨h1,h2⟩,h3⟩:=hb;obtain⟨i',z,hi',hz,hc⟩:=ZA h1;obtain rfl:i'=i:=by rw[hi]at hi';exact(bM hi').symm
    have h2:=aIT h2;have h3:0<i'.size:=by
     rcases pK i'.size with h0|h0
     .rw[h0]at h3;cases h3
     .exact h0
    have hzs:z.cells.size=i'.size:=by rw[aKe,hc];exact h2
    split at h
    .rename_i q m c2 _
     split at h
     .rename_i e2 hu
      obtain⟨xs,news,hown,hl,hone,hsrc,hm,hby,hk⟩:=h;have BL:∀w',(∀a,w'.cell? a=w.cell? a)->(Builtin.firstCells i'.size m (.slice q m c2)).run P w'=.ok ⟨news⟩ w':=by
       intro w' hw;rcases pK m with h0|h0
       .subst h0
        obtain rfl:news=[]:=mH (by simpa using hl);cases q with
        |none=>rfl
        |some a=>simp[Builtin.firstCells,loadCells,loadCellsFrom]
       .obtain⟨a',h,hc⟩:=hsrc h0
        subst h;have:=run_firstCells_some (P:=P) w' i'.size m a' m c2 news hl (λj u hu=>(hw _).trans (hc j u hu));simpa using this
      obtain⟨p',c',w',hrun,h5,h6,h8⟩:=YM (ty:=ty) ht hu (by simp) hi hz hzs h3 hown (x:=.slice q m c2) (m:=m) (news:=news) (λ_=>rfl) (BL w (λ_=>rfl)) (BL w.drew (λ_=>rfl)) hl hone hm hby;exact⟨_,_,hrun,hk p' c' w' h5 h6 h8⟩
     .exact h.elim
    .rename_i b _
     split at h
     .rename_i hu
      obtain⟨aLS,xs,hown,hm,hby,hk⟩:=dR h;have aLS:=aIT aLS;have BL:∀w',(Builtin.firstCells i'.size b.length (.string ⟨⟨b⟩⟩)).run P w'=.ok ⟨b.map λb=>Value.int .u8 b.toNat⟩ w':=by intro w';simp only[Builtin.firstCells,Sem.run_pure];congr 1;apply jL;simp[OG]
      obtain⟨p',c',w',hrun,h5,h6,h8⟩:=YM (ty:=ty) ht hu (by simp) hi hz hzs h3 hown (x:=.string ⟨⟨b⟩⟩) (m:=b.length) (news:=b.map λb=>Value.int .u8 b.toNat) (λ_=>rfl) (BL w) (BL w.drew) (by rw[aLS];simp)
       (by intro u hu;simp only[eo]at hu;obtain⟨_,_,rfl⟩:=hu;rfl) hm hby
      exact⟨_,_,hrun,hk p' c' w' h5 h6 h8⟩
     .exact h.elim
    .exact h.elim
   .exact h.elim
  .exact h.elim
 .exact h.elim
def Se(P:Program)(dst:TypeId)(src:TypeId)(s:List UInt8)(w:World)(K:KW):Prop:=match P.underlying src,P.underlying dst with
 |some _,some (.slice e)=>ak (H6 P e) (s.length<=9223372036854775807/\∀(c:Nat) (w':World),aV w' 0 e 1 (.slice (some ⟨w.heap.size,0,none⟩) s.length c) s.length (s.map λb=>Value.int .u8 b.toNat)->w.grownBy w' none->
   K (.slice (some ⟨w.heap.size,0,none⟩) s.length c) w') False
 |_,_=>False
def aoQ{P:Program}{src dst:TypeId}{s:List UInt8}{w:World}{K:KW}(h:Se P dst src s w K):∃v w',(convert src dst (.string ⟨⟨s⟩⟩)).run P w=.ok v w'/\K v w':=by
 unfold Se at h;split at h
 .rename_i u e hs hd
  obtain⟨he,hlen,hk⟩:=dR h;have hr:=Lib.run_convert_string_bytes w src dst e ⟨⟨s⟩⟩ hs hd (ab8 he);refine⟨_,_,hr,hk _ _ ⟨by simp,.inr ⟨w.heap.size,_,_,rfl,dx _,⟨_,Lib.bytesWorld_at_new w e ⟨⟨s⟩⟩,.inr (aW _)⟩,?_,?_,?_,?_⟩⟩ ⟨rfl,rfl,rfl,?_,?_⟩⟩
  .exact grownCap_ge w s.length 0 e
  .exact grownCap_le_maxLen w s.length 0 e (by simpa[maxLen]using hlen)
  .have:=grownCap_ge w s.length 0 e
   simp[Lib.bytesCells,ByteArray.size];omega
  .simp only[Lib.bytesCells,eX,XL,Array.toList_map]
   rw[Xm (by simp)];rw[vK (by simp)]
  .rw[Lib.bytesWorld_size];omega
  .intro k hk _
   exact Lib.bytesWorld_at_old w e ⟨⟨s⟩⟩ k hk
 .exact h.elim
def copyV(P:Program)(t:TypeId)(d s:Value)(w:World)(K:KW):Prop:=match d with
 |.slice p dn _=>match P.underlying t with
  |some (.slice e)=>ak (iS P e&&Nat.beq (eB P e) 1) (∃cs:List Value,(∀v∈cs,v.oneCell'=true)/\(match s with
    |.slice q sn _=>cs.length=min sn dn/\(0<cs.length->∃a,q=some a/\∀j u,cs[j]?=some u->w.cell? (a.add j)=some u)
    |.string ⟨⟨s⟩⟩=>cs=(s.take (min s.length dn)).map (λb=>Value.int .u8 b.toNat)
    |_=>False)/\
    ((cs.length=0/\K (.int .i64 0) w)\/∃(g o:Nat) (cur:List Value) (e':TypeId),p=some ⟨g,o,none⟩/\Row w g e' ⟨cur⟩/\o+cs.length<=cur.length/\
     K (.int .i64 cs.length) (w.setRow g ⟨cur.take o++(cs++cur.drop (o+cs.length))⟩))) False
  |_=>False
 |_=>False
def asi{P:Program}{t t2 ty:TypeId}{d s:Value}{w:World}{K:KW}(h:copyV P t d s w K):∃v w',(Builtin.copy_ #[t,t2] ty #[d,s]).run P w=.ok v w'/\K v w':=by
 unfold copyV at h;split at h
 .rename_i p dn dc
  split at h
  .rename_i e hu
   obtain⟨hb,cs,hone,hs,hk⟩:=dR h;simp only[eC]at hb;have hsz:=aIT hb.2;have hlen:∃n,(Builtin.lenOf s).run P w=.ok n w/\cs.length=min n dn:=by
    split at hs
    .exact⟨_,rfl,hs.1⟩
    .rename_i s
     refine⟨s.length,rfl,?_⟩;rw[hs];simp
    .exact hs.elim
   have BL:(Builtin.firstCells 1 cs.length s).run P w=.ok ⟨cs⟩ w:=by
    split at hs
    .rename_i q sn sc
     cases q with
     |none=>
      have h0:cs.length=0:=by
       rcases pK cs.length with h0|h0
       .exact h0
       .obtain⟨a,ha,_⟩:=hs.2 h0;cases ha
      obtain rfl:=mH h0;rfl
     |some a=>
      have hc:∀j u,cs[j]?=some u->w.cell? (a.add j)=some u:=by
       intro j u hj;have h0:0<cs.length:=by have:=(jj.1 hj).1;omega
       obtain⟨a',ha,hc⟩:=hs.2 h0;obtain rfl:=bM ha;exact hc j u hj
      simp only[Builtin.firstCells,eX];exact run_loadCells_list (P:=P) w a cs hc
    .rename_i s
     subst hs;simp only[Builtin.firstCells,Sem.run_pure,aIB,eH];congr 1;apply jL;simp[OG,ByteArray.data_extract]
    .exact hs.elim
   obtain⟨n,hn,hcl⟩:=hlen;have hmin:Nat.min n dn=cs.length:=hcl.symm;have pre:∀(r:Result Value),(match p with
     |some a=>((storeCells a cs).run P w).andThen λ_ w'=>.ok (goInt cs.length) w'
     |none=>.ok (goInt cs.length) w)=r->(Builtin.copy_ #[t,t2] ty #[.slice p dn dc,s]).run P w=r:=by
    intro r hr;subst hr;cases p<;>simp[Builtin.copy_,run_underlying hu,hn,hmin,pM hb.1,hsz,BL,Result.andThen]
   rcases hk with⟨h0,hk⟩|⟨g,o,cur,e',rfl,hg,hf,hk⟩
   .obtain rfl:=mH h0
    refine⟨_,_,pre _ ?_,hk⟩;cases p<;>rfl
   .refine⟨_,_,pre _ ?_,hk⟩
    have:=aLn P g o e' cs 0 ⟨cur⟩ w hg (by simpa using hf) hone;simp only[this,Result.andThen_ok,goInt,FO,mL]
  .exact h.elim
 .exact h.elim
def dP(P:Program)(f:FuncId):Bool:=match P.funcs[f]? with
 |some fn=>match fn.body with
  |some _=>!(fn.name== "runtime.NumGoroutine")
  |none=>false
 |none=>false
def KM{P:Program}{f:FuncId}(h:dP P f=true)(args:Array Value)(w:World):(callFunc f args).run P w=.ok (.enter f args) w:=by
 unfold dP at h;cases hf:P.funcs[f]? with
 |none=>simp[hf]at h
 |some fn=>
  cases hb:fn.body with
  |none=>simp[hf,hb]at h
  |some c=>
   have hn:fn.name≠ "runtime.NumGoroutine" :=by simpa[hf,hb]using h
   simp[callFunc,hf,hb,hn]
def gN(f:Value)(K:FuncId->List Value->List Value->Prop):Prop:=match f with
 |.func (.func g) ⟨first⟩ ⟨cap⟩=>K g first cap
 |_=>False
def F6{f:Value}{K:FuncId->List Value->List Value->Prop}(h:gN f K):∃g first cap,f=.func (.func g) ⟨first⟩ ⟨cap⟩/\K g first cap:=by
 unfold gN at h;split at h
 .exact⟨_,_,_,rfl,h⟩
 .exact h.elim
def ab_{P:Program}{l:Fr}{ds:List Deferred}{o:Oper}{f:Operand}{xs:List Operand}{ts:Array TypeId}(ho:o.op=.call ⟨.value f,⟨xs⟩,ts⟩){g:FuncId}{first cap:List Value}
  (hf:(act l ds).eval f=.func (.func g) ⟨first⟩ ⟨cap⟩)(hc:dP P g=true)(w:World):
  (execOp (act l ds).eval o).run P w=.ok (.enter g ⟨first++(xs.map (act l ds).eval++cap)⟩) w:=by
 simp only[execOp,ho,resolve,hf,Deferred.ofValue,invoke,Sem.run_bind,Sem.run_pure,Result.andThen_ok];rw[KM hc];congr 2;apply jL;simp
def Tt(P:Program)(t:TypeId)(v:Value)(w:World)(K:KW):Prop:=match v with
 |.string ⟨⟨b⟩⟩=>match P.underlying t with
  |some .string=>K (.pointer (some ⟨w.heap.size,0,none⟩)) (w.alloc (.stringIter ⟨⟨b⟩⟩ 0))
  |_=>False
 |_=>False
def ae5(a:Addr)(w:World)(K:KW):Prop:=a.off=0/\∃(b:List UInt8) (pos:Nat),w.heap[a.block]?=some (.stringIter ⟨⟨b⟩⟩ pos)/\
 ak (decide (pos<b.length)) (K (.tuple #[.bool true,.int .i64 (pos:Int),.int .i32 ((Utf8.decode ⟨⟨b⟩⟩ pos).1:Int)]) (w.iterAt a.block ⟨⟨b⟩⟩ (pos+(Utf8.decode ⟨⟨b⟩⟩ pos).2)))
  (K (.tuple #[.bool false]) w)
def aqC{P:Program}{t:TypeId}{v:Value}{w:World}{K:KW}(h:Tt P t v w K):∃u w',(Instr.range t v).run P w=.ok u w'/\K u w':=by
 unfold Tt at h;split at h
 .split at h
  .rename_i ht
   refine⟨_,_,?_,h⟩;simp only[Instr.range,Sem.run_bind,run_underlying ht,Result.andThen_ok,Sem.run_pure];rfl
  .exact h.elim
 .exact h.elim
def asj{P:Program}{a:Addr}{w:World}{K:KW}{ty:TypeId}(h:ae5 a w K):∃u w',(Instr.next (.pointer (some a)) true ty).run P w=.ok u w'/\K u w':=by
 obtain⟨h0,b,pos,hk,h⟩:=h;obtain⟨g,off,x⟩:=a;dsimp only at h0 hk h;subst h0;have any:pos<b.length->(Instr.next (.pointer (some ⟨g,0,x⟩)) true ty).run P w=.ok (.tuple #[.bool true,.int .i64 (pos:Int),.int .i32 ((Utf8.decode ⟨⟨b⟩⟩ pos).1:Int)]) (w.iterAt g ⟨⟨b⟩⟩ (pos+(Utf8.decode ⟨⟨b⟩⟩ pos).2)):=by intro hlt;have hlt':pos<(⟨⟨b⟩⟩:ByteArray).size:=hlt;simp only[Instr.next,getObj,setObj,Sem.run_bind,Sem.run,hk,Result.andThen,hlt',oV];simp[goInt,World.iterAt]
 have over:¬pos<b.length->(Instr.next (.pointer (some ⟨g,0,x⟩)) true ty).run P w=.ok (.tuple #[.bool false]) w:=by intro hlt;have hlt':¬pos<(⟨⟨b⟩⟩:ByteArray).size:=hlt;simp[Instr.next,getObj,Sem.run,hk,hlt']
 by_cases hlt:pos<b.length
 .rw[fV hlt]at h
  exact⟨_,_,any hlt,h⟩
 .rw[aIl hlt]at h
  exact⟨_,_,over hlt,h⟩
def ae6(w:World)(a:Addr):Prop:=∃e cells,w.shape? a.block=some (e,cells)/\a.off<cells
def ae7(P:Program)(u:TypeId)(w:World)(a:Addr):Prop:=∃e cells,w.shape? a.block=some (e,cells)/\liesAt P P.depth e (cells/P.cellsOf e) a.off u 1=true
def Sf(P:Program)(sr d:TypeId)(p:Option Addr)(w:World)(K:KW):Prop:=match P.underlying sr,P.underlying d with
 |some (.pointer t),some .unsafePointer=>ak (iS P t&& !Nat.beq (eB P t) 0) (az p λa=>ae6 w a/\K (.pointer (some a)) w) False
 |some .unsafePointer,some (.pointer u)=>ak (iS P u) (az p λa=>ae7 P u w a/\K (.pointer (some a)) w) False
 |_,_=>False
def adi{P:Program}{t:TypeId}(h:iS P t=true):∃j,P.info? t=some j/\eB P t=j.size:=by
 unfold iS at h;unfold eB;cases hj:P.info? t with
 |none=>rw[hj]at h;cases h
 |some j=>exact⟨j,rfl,rfl⟩
def aoR{P:Program}{sr d:TypeId}{p:Option Addr}{w:World}{K:KW}(h:Sf P sr d p w K):∃v,K v w/\(convert sr d (.pointer p)).run P w=.ok v w:=by
 unfold Sf at h;split at h
 .rename_i t hs hd
  obtain⟨hb,h⟩:=dR h;rw[eC]at hb;obtain⟨j,hj,hsz⟩:=adi hb.1;obtain⟨a,rfl,⟨e,cells,hsh,ho⟩,hk⟩:=aKT h;refine⟨_,hk,Lib.run_to_unsafe w a hs hd hj ?_ hsh ho⟩;intro h0;rw[hsz,h0]at hb;cases hb.2
 .rename_i u hs hd
  obtain⟨hb,h⟩:=dR h;obtain⟨j,hj,hsz⟩:=adi hb;obtain⟨a,rfl,⟨e,cells,hsh,ho⟩,hk⟩:=aKT h;exact⟨_,hk,Lib.run_from_unsafe w a hs hd hj hsh ho⟩
 .exact h.elim
def Me(e:TypeId)(p:Option Addr)(n:Int)(w:World)(K:List UInt8->World->Prop):Prop:=
 ∃s:List UInt8,n=s.length/\s.length<=9223372036854775807/\((s=[]/\K s w)\/(s≠[]/\∃g cells,p=some ⟨g,0,none⟩/\w.shape? g=some (e,cells)/\s.length<=cells/\
  (∀j x,s[j]?=some x->w.cell? ((⟨g,0,none⟩:Addr).add j)=some (.int .u8 x.toNat))/\K s (w.freeze ⟨g,0,none⟩ s.length)))
def aLB(P:Program)(pt:TypeId)(x n:Value)(w:World)(K:KW):Prop:=match x,n with
 |.pointer p,.int .i64 n=>match P.underlying pt with
  |some (.pointer e)=>ak (Nat.beq (P.cellsOf e) 1) (Me e p n w λs w'=>K (.string (S s)) w') False
  |_=>False
 |_,_=>False
def an0{P:Program}{pt it ty:TypeId}{x n:Value}{w:World}{K:KW}(h:aLB P pt x n w K):∃v w',(Builtin.unsafeString_ #[pt,it] ty #[x,n]).run P w=.ok v w'/\K v w':=by
 unfold aLB at h;split at h
 .rename_i p n
  split at h
  .rename_i e hu
   obtain⟨hc,s,rfl,h63,⟨rfl,hk⟩|⟨h0,g,cells,rfl,hsh,hn,hcell,hk⟩⟩:=dR h
   .exact⟨_,w,Lib.run_unsafeString_none w pt it ty p,hk⟩
   .exact⟨_,_,Lib.run_unsafeString_row w pt it ty e hu (aIT hc) g cells hsh s h0 hn h63 hcell,hk⟩
  .exact h.elim
 .exact h.elim
def SN(P:Program)(g:FuncId):Prop:=∃fn,P.funcs[g]?=some fn/\(fn.name== "runtime.NumGoroutine")=false/\fn.body.isNone=true/\Extern.findNext fn=none/\Extern.find fn=some Extern.AbiNoEscape.same
def af6(P:Program)(g:FuncId)(args:List Value)(K:Value->Prop):Prop:=SN P g/\match args with
 |[v]=>K v
 |_=>False
def avx{P:Program}{l:Fr}{ds:List Deferred}{o:Oper}{f:Operand}{xs:List Operand}{ts:Array TypeId}(ho:o.op=.call ⟨.value f,⟨xs⟩,ts⟩){g:FuncId}{first cap:List Value}
  (hf:(act l ds).eval f=.func (.func g) ⟨first⟩ ⟨cap⟩){K:Value->Prop}(h:af6 P g (first++(xs.map (act l ds).eval++cap)) K)(w:World):
  ∃v,(execOp (act l ds).eval o).run P w=.ok (.value v) w/\K v:=by
 obtain⟨⟨fn,h1,h2,h3,h4,h5⟩,hk⟩:=h;split at hk
 .rename_i v hv
  refine⟨v,?_,hk⟩;simp only[execOp,ho,resolve,hf,Deferred.ofValue,invoke,Sem.run_bind,Sem.run_pure,Result.andThen_ok];have e:({toList:=first}:Array Value)++Array.map (act l ds).eval {toList:=xs}++({toList:=cap}:Array Value)=#[v]:=by apply jL;simpa using hv
  rw[e,run_callFunc_extern h1 h2 h3 h4 h5];rfl
 .exact hk.elim
def atX{P:Program}{l:Fr}{ds:List Deferred}{o:Oper}{f:Operand}{xs:List Operand}{ts:Array TypeId}(ho:o.op=.call ⟨.value f,⟨xs⟩,ts⟩){g:FuncId}{first cap:List Value}
  (hf:(act l ds).eval f=.func (.func g) ⟨first⟩ ⟨cap⟩){fn:Func}{e:Array Value->Sem Value}(h1:P.funcs[g]?=some fn)(h2:(fn.name== "runtime.NumGoroutine")=false)(h3:fn.body.isNone=true)(h4:Extern.findNext fn=none)(h5:Extern.find fn=some e){args:Array Value}{v:Value}{w w':World}
  (ha:(Array.mk (first++(xs.map (act l ds).eval++cap)))=args)(hr:(e args).run P w=.ok v w'):(execOp (act l ds).eval o).run P w=.ok (.value v) w':=by
 have e1:(⟨first⟩:Array Value)++Array.map (act l ds).eval ⟨xs⟩++⟨cap⟩=⟨first++(xs.map (act l ds).eval++cap)⟩:=by apply jL;simp
 simp only[execOp,ho,resolve,hf,Deferred.ofValue,invoke,Sem.run_bind,Sem.run_pure,Result.andThen_ok];rw[e1,run_callFunc_extern h1 h2 h3 h4 h5,ha,hr];rfl
def aIc(P:Program)(t:TypeId)(m k x:Value)(w:World)(K:World->Prop):Prop:=∃w',(Instr.mapUpdate t m k x).run P w=.ok () w'/\K w'
def Ah(P:Program)(t:TypeId)(m k:Value)(w:World)(K:Value->Bool->Prop):Prop:=∃(v:Value) (ok:Bool),(Instr.lookup t m k true).run P w=.ok (.tuple ⟨[v,.bool ok]⟩) w/\K v ok
def axZ(P:Program)(t ty:TypeId)(m k:Value)(w:World)(K:Value->Prop):Prop:=D0 P ty λv=>(Instr.lookup t m k false).run P w=.ok v w/\K v
def af7(P:Program)(t u:TypeId)(m k:Value)(w:World)(K:World->Prop):Prop:=∃w',(∀ty,(Builtin.delete_ #[t,u] ty #[m,k]).run P w=.ok (.tuple #[]) w')/\K w'
def LV(P:Program)(t:TypeId)(x:Value)(w:World)(K:World->Prop):Prop:=∃w',(∀ty,(Builtin.clear_ #[t] ty #[x]).run P w=.ok (.tuple #[]) w')/\K w'
def SO(v:Value)(w:World)(K:Nat->World->Prop):Prop:=∃(r:Nat) (es:Array MapEntry) (clock:Nat),v=.map (some r)/\w.heap[r]?=some (.map es clock)/\K w.heap.size (w.alloc (.mapIter (some r) clock #[] clock))
def Tu(P:Program)(a:Addr)(w:World)(A:World->Prop)(B:Value->Value->World->Prop):Prop:=
 (∃w',(∀ty,(Instr.next (.pointer (some a)) false ty).run P w=.ok (.tuple #[.bool false]) w')/\A w')\/
 ∃k x w',(∀ty,(Instr.next (.pointer (some a)) false ty).run P w=.ok (.tuple #[.bool true,k,x]) w')/\B k x w'
def LW(P:Program)(t:TypeId):Bool:=match P.underlying t with
 |some (.map _ _)=>true
 |_=>false
def aqD{P:Program}{t:TypeId}(h:LW P t=true):∃k e,P.underlying t=some (.map k e):=by
 unfold LW at h;split at h
 .exact⟨_,_,by assumption⟩
 .cases h
def adj(P:Program)(t:TypeId):Bool:=match P.underlying t with
 |some (.map _ e)=>match HZ P e with
  |.leaf .raw=>true
  |_=>false
 |_=>false
def Mf(d:Option Nat)(i:Nat):List Oper->Option TypeId
 |[]=>none
 |o::r=>match o.op,d with
  |.extract (.tmp t) j,some d=>bif Nat.beq t d&&Nat.beq i j then some o.type else Mf (some d) i r
  |_,d=>Mf d i r
def TX(P:Program):Option TypeId->(Value->Prop)->Prop
 |some t,K=>Mx (HZ P t) K
 |none,K=>∃v:Value,K v
def abb{P:Program}{x:Option TypeId}{K:Value->Prop}(h:TX P x K):∃v,K v:=by
 cases x with
 |none=>exact h
 |some t=>exact Sb h
def aea(P:Program)(a:Addr)(t u:Option TypeId)(w:World)(K:Value->Value->Prop):Prop:=
 TX P t λk=>TX P u λx=>(Instr.entry (.pointer (some a))).run P w=.ok (.tuple #[k,x]) w/\K k x
def aqE{P:Program}{a:Addr}{t u:Option TypeId}{w:World}{K:Value->Value->Prop}(h:aea P a t u w K):∃k x,(Instr.entry (.pointer (some a))).run P w=.ok (.tuple #[k,x]) w/\K k x:=by obtain⟨k,h⟩:=abb h;obtain⟨x,h⟩:=abb h;exact⟨k,x,h⟩
def Lm(P:Program)(g:FuncId):Prop:=∃fn,P.funcs[g]?=some fn/\(fn.name== "runtime.NumGoroutine")=false/\fn.body.isNone=true/\Extern.findNext fn=none/\Extern.find fn=some Extern.MapsClone.clone
def ae8(P:Program)(g:FuncId)(args:List Value)(w:World)(K:KW):Prop:=match args with
 |[.iface t (.map p)]=>Lm P g/\az p λr=>∃(es:Array MapEntry) (clock:Nat),w.heap[r]?=some (.map es clock)/\K (.iface t (.map (some w.heap.size))) (w.alloc (.map es clock))
 |args=>af6 P g args λv=>K v w
def qH(P:Program)(l:Fr)(o:Oper)(w:World)(K:KW)(E:List PanicEntry->World->Prop):Prop:=match o.op with
 |.alloc e=>ak (aK3 P e) (K (.pointer (some ⟨w.heap.size,0,none⟩)) (w.alloc (.cells ⟨zeroOf P e⟩ e))) False
 |.box e x=>cO l x λv=>ak (aK4 P e) (ak v.oneCell' (K (.pointer (some ⟨w.heap.size,0,none⟩)) (w.alloc (.cells ⟨[v]⟩ e))) False) (K (.pointer (some ⟨w.heap.size,0,none⟩)) (w.alloc (.cells ⟨cellsOf v⟩ e)))
 |.store t a x=>cO l a λa=>cO l x λv=>yg a λa=>G4 P t a (aLN P t v) w λw'=>K undef w'
 |.makeSlice t n c=>cO l n λn=>cO l c λc=>ae4 P t n c w K
 |.buildSlice t len ⟨parts⟩=>LU l parts λps=>Rc P t len ps w K
 |.panic x=>cO l x λv=>match v with
  |.iface t u=>E [{v:=.iface t u,recovered:=false}] w
  |_=>False
 |.makeMap _ none=>K (.map (some w.heap.size)) (w.alloc (.map #[] 0))
 |.mapUpdate t m k x=>cO l m λm=>cO l k λk=>cO l x λx=>aIc P t m k x w λw'=>K undef w'
 |.insert t m k x=>cO l m λm=>cO l k λk=>cO l x λx=>aIc P t m k x w λw'=>K undef w'
 |.lookup t x i true=>cO l x λx=>cO l i λi=>ak (adj P t) (Ah P t x i w λv ok=>K (.tuple ⟨[v,.bool ok]⟩) w) (D0 P o.type λv=>(Instr.lookup t x i true).run P w=.ok v w/\K v w)
 |.lookup t x i false=>cO l x λx=>cO l i λi=>axZ P t o.type x i w λv=>K v w
 |.call ⟨.builtin .append,⟨xs⟩,⟨ts⟩⟩=>match ts,xs with
  |[t,u],[s,x]=>cO l s λs=>cO l x λx=>SM P t u s x w K
  |_,_=>False
 |.call ⟨.builtin .delete,⟨xs⟩,⟨ts⟩⟩=>match ts,xs with
  |[t,u],[m,k]=>cO l m λm=>cO l k λk=>af7 P t u m k w λw'=>K (.tuple ⟨[]⟩) w'
  |_,_=>False
 |.call ⟨.builtin .clear,⟨xs⟩,⟨ts⟩⟩=>match ts,xs with
  |[t],[x]=>cO l x λx=>LV P t x w λw'=>K (.tuple ⟨[]⟩) w'
  |_,_=>False
 |.call ⟨.builtin .copy,⟨xs⟩,⟨ts⟩⟩=>match ts,xs with
  |[t,_],[d,s]=>cO l d λd=>cO l s λs=>copyV P t d s w K
  |_,_=>False
 |.call ⟨.builtin .unsafeString,⟨xs⟩,⟨ts⟩⟩=>match ts,xs with
  |[pt,_],[x,n]=>cO l x λx=>cO l n λn=>aLB P pt x n w K
  |_,_=>False
 |.call ⟨.value f0,⟨xs⟩,_⟩=>cO l f0 λf=>gN f λg first cap=>wM l xs λvs=>ak (dP P g)
   (Calls P g ⟨first++(vs++cap)⟩ w λe w'=>(D0 P o.type λv=>e=.returned v/\K v w')\/∃c,e=.panicked c/\E c w') (match f0 with
    |.func _=>ae8 P g (first++(vs++cap)) w K
    |_=>False)
 |.convert sr d x=>cO l x λv=>match v with
  |.string ⟨⟨b⟩⟩=>match P.underlying d with
   |some (.slice _)=>Se P d sr b w K
   |_=>D1 P sr d (.string ⟨⟨b⟩⟩) (λa v=>w.cell? a=some v) λv=>K v w
  |.pointer p=>Sf P sr d p w K
  |v=>D1 P sr d v (λa v=>w.cell? a=some v) λv=>K v w
 |.range t x=>cO l x λv=>ak (LW P t) (SO v w λb w'=>K (.pointer (some ⟨b,0,none⟩)) w') (Tt P t v w K)
 |.next it true=>cO l it λv=>yg v λa=>ae5 a w K
 |.next it false=>cO l it λv=>yg v λa=>Tu P a w (λw'=>K (.tuple ⟨[.bool false]⟩) w') λk x w'=>K (.tuple ⟨[.bool true,k,x]⟩) w'
 |_=>sO P l o (λa v=>w.cell? a=some v) λv=>K v w
def oX{s:Sem Value}{P:Program}{v:Value}{w w':World}(h:s.run P w=.ok v w'):(do pure (Next.value (<-s)):Sem Next).run P w=.ok (.value v) w':=by simp only[Sem.run_bind,h,Result.andThen_ok,Sem.run_pure]
def Gg{P:Program}{l:Fr}{ds:List Deferred}{o:Oper}{w:World}{K:KW}{E:List PanicEntry->World->Prop}{next:Act->World->Prop}{Q:Exit->Act->World->Prop}
  (h:qH P l o w K E)(hK:∀v w',K v w'->next ((act l ds).put o.dst v) w')(hE:∀c w',E c w'->Q (.panic c) (act l ds) w'):o.wp P (act l ds) w next Q:=by
 have value:∀v w',(execOp (act l ds).eval o).run P w=.ok (.value v) w'->K v w'->o.wp P (act l ds) w next Q:=by intro v w' hr hk;unfold Oper.wp;rw[hr];exact hK v w' hk
 unfold qH at h;split at h
 .rename_i e ho
  obtain⟨hz,h⟩:=dR h;obtain⟨z,hz1,hr⟩:=Ll hz;refine value _ _ ?_ h;simp only[execOp,ho];refine oX ?_;simp only[Instr.alloc,Sem.run_bind,hr,Result.andThen_ok,newVar,newRow,aKe,hz1,Sem.run_pure];rfl
 .rename_i e x ho
  have h:=cL (ds:=ds) h;have h:K (.pointer (some ⟨w.heap.size,0,none⟩)) (w.alloc (.cells ⟨cellsOf ((act l ds).eval x)⟩ e)):=by
   rw[aIs]at h;cases hs:aK4 P e with
   |false=>exact h.2 hs
   |true=>obtain⟨hv,h⟩:=dR (h.1 hs);rw[Rb hv];exact h
  refine value _ _ ?_ h;simp only[execOp,ho];refine oX ?_;simp only[Instr.box,Sem.run_bind,Result.andThen_ok,newVar,newRow,aKe,Sem.run_pure];rfl
 .rename_i t a x ho
  have h:=cL (ds:=ds) (cL (ds:=ds) h);obtain⟨a',ha,h⟩:=BA h;obtain⟨w',hr,hk⟩:=aqA (aqB h);unfold Oper.wp;simp only[execOp,ho,Instr.storeAt,ha,Instr.sureAddr,Sem.run_bind,Sem.run_pure,Result.andThen_ok,hr];exact hK _ _ hk
 .rename_i t n c ho
  obtain⟨v,w',hr,hk⟩:=ash (cL (ds:=ds) (cL (ds:=ds) h));refine value v w' ?_ hk;simp only[execOp,ho];simp only[Sem.run_bind,hr,Result.andThen_ok,Sem.run_pure]
 .rename_i t len parts ho
  obtain⟨v,w',hr,hk⟩:=anD (Z7 (ds:=ds) h);refine value v w' ?_ hk;simp only[execOp,ho,xA];simp only[Sem.run_bind];have hr':(Instr.buildSlice t len (List.map (λx:Nat×Operand=>(x.1,(act l ds).eval x.2)) parts).toArray).run P w=.ok v w':=hr;rw[hr'];rfl
 .rename_i x ho
  have h:=cL (ds:=ds) h;split at h
  .rename_i y t u hx
   unfold Oper.wp;simp only[execOp,ho,hx,Instr.panic,goPanic,Sem.run_bind,Sem.run_halt,Result.andThen_halt];exact hE _ _ h
  .exact h.elim
 .rename_i t ho
  refine value _ _ ?_ h;simp only[execOp,ho];refine oX ?_;simp only[Instr.makeMap,P6,newObj,Sem.run_bind,Sem.run_pure,Result.andThen_ok];rfl
 .rename_i t m k x ho
  obtain⟨w',hr,hk⟩:=cL (ds:=ds) (cL (ds:=ds) (cL (ds:=ds) h));unfold Oper.wp;simp only[execOp,ho,Sem.run_bind,Sem.run_pure,Result.andThen_ok,hr];exact hK _ _ hk
 .rename_i t m k x ho
  obtain⟨w',hr,hk⟩:=cL (ds:=ds) (cL (ds:=ds) (cL (ds:=ds) h));unfold Oper.wp;simp only[execOp,ho,Sem.run_bind,Sem.run_pure,Result.andThen_ok,hr];exact hK _ _ hk
 .rename_i t x i ho
  have h:=cL (ds:=ds) (cL (ds:=ds) h);rw[aIs]at h;cases hb:adj P t with
  |true=>obtain⟨v,ok,hr,hk⟩:=h.1 hb;refine value _ w ?_ hk;simp only[execOp,ho];exact oX hr
  |false=>obtain⟨v,hr,hk⟩:=Lb (h.2 hb);refine value _ w ?_ hk;simp only[execOp,ho];exact oX hr
 .rename_i t x i ho
  obtain⟨v,hr,hk⟩:=Lb (cL (ds:=ds) (cL (ds:=ds) h));refine value _ w ?_ hk;simp only[execOp,ho];exact oX hr
 .rename_i xs ts ho
  split at h
  .rename_i t u s x
   obtain⟨v,w',hr,hk⟩:=apx (ty:=o.type) (cL (ds:=ds) (cL (ds:=ds) h));refine value v w' ?_ hk;simp only[execOp,ho,resolve,invoke,builtin,Sem.run_bind,Sem.run_pure,Result.andThen_ok,xA,fW,qZ,hr]
  .exact h.elim
 .rename_i xs ts ho
  split at h
  .rename_i t u m k
   obtain⟨w',hr,hk⟩:=cL (ds:=ds) (cL (ds:=ds) h);refine value _ w' ?_ hk;simp only[execOp,ho,resolve,invoke,builtin,Sem.run_bind,Sem.run_pure,Result.andThen_ok,xA,fW,qZ,hr]
  .exact h.elim
 .rename_i xs ts ho
  split at h
  .rename_i t x
   obtain⟨w',hr,hk⟩:=cL (ds:=ds) h;refine value _ w' ?_ hk;simp only[execOp,ho,resolve,invoke,builtin,Sem.run_bind,Sem.run_pure,Result.andThen_ok,xA,fW,qZ,hr]
  .exact h.elim
 .rename_i xs ts ho
  split at h
  .rename_i t t' d s
   obtain⟨v,w',hr,hk⟩:=asi (t2:=t') (ty:=o.type) (cL (ds:=ds) (cL (ds:=ds) h));refine value v w' ?_ hk;simp only[execOp,ho,resolve,invoke,builtin,Sem.run_bind,Sem.run_pure,Result.andThen_ok,xA,fW,qZ,hr]
  .exact h.elim
 .rename_i xs ts ho
  split at h
  .rename_i pt it x n
   obtain⟨v,w',hr,hk⟩:=an0 (it:=it) (ty:=o.type) (cL (ds:=ds) (cL (ds:=ds) h));refine value v w' ?_ hk;simp only[execOp,ho,resolve,invoke,builtin,Sem.run_bind,Sem.run_pure,Result.andThen_ok,xA,fW,qZ,hr]
  .exact h.elim
 .rename_i f xs ts ho
  obtain⟨g,first,cap,hf,h⟩:=F6 (cL (ds:=ds) h);have h:=aK0 (ds:=ds) h;rw[aIs]at h;cases hc:dP P g with
  |true=>
   have h:=h.1 hc;unfold Oper.wp;rw[ab_ ho hf hc];refine Calls.mono h ?_;rintro e w' (h|⟨c,rfl,h⟩)
   .obtain⟨v,rfl,hk⟩:=Lb h
    exact hK v w' hk
   .exact hE c w' h
  |false=>
   have h:=h.2 hc;split at h
   .unfold ae8 at h
    split at h
    .rename_i t p hargs
     obtain⟨⟨fn,h1,h2,h3,h4,h5⟩,h⟩:=h;obtain⟨r,rfl,es,clock,hb,hk⟩:=aKT h;refine value _ _ ?_ hk;have e:(#[]:Array Value)=⟨[]⟩:=rfl;have awP:(Array.mk (first++(xs.map (act l ds).eval++cap)))=#[.iface t (.map (some r))]:=by rw[hargs]
     have hcl:(Extern.MapsClone.clone #[.iface t (.map (some r))]).run P w=.ok (.iface t (.map (some w.heap.size))) (w.alloc (.map es clock)):=by
      have e:Extern.MapsClone.clone #[.iface t (.map (some r))]=(getObj r>>=λo=>match o with
       |.map entries clock=>(newObj (.map entries clock)>>=λn=>pure (.iface t (.map (some n))))
       |_=>stuck "maps.clone: a map expected"):=rfl
      rw[e];simp[MapKept.run_getObj_map hb,Result.andThen,go_sem]
     exact atX ho hf h1 h2 h3 h4 h5 awP hcl
    .obtain⟨v,hr,hk⟩:=avx ho hf h w
     exact value v w hr hk
   .exact h.elim
 .rename_i sr d x ho
  have h:=cL (ds:=ds) h;have quiet:D1 P sr d ((act l ds).eval x) (λa v=>w.cell? a=some v) (λv=>K v w)->o.wp P (act l ds) w next Q:=by intro h;obtain⟨v,hk,hr⟩:=aa7 (P:=P) h;exact value v w (by simp only[execOp,ho];exact oX (hr w λa u h=>h)) hk
  split at h
  .rename_i b hx
   split at h
   .obtain⟨v,w',hr,hk⟩:=aoQ h
    refine value v w' ?_ hk;simp only[execOp,ho,hx];exact oX hr
   .exact quiet (by rw[hx];exact h)
  .rename_i p hx
   obtain⟨v,hk,hr⟩:=aoR h;refine value v w ?_ hk;simp only[execOp,ho,hx];exact oX hr
  .exact quiet h
 .rename_i t x ho
  have h:=cL (ds:=ds) h;rw[aIs]at h;cases hm:LW P t with
  |true=>obtain⟨k,e,hu⟩:=aqD hm;obtain⟨r,es,clock,hx,hb,hk⟩:=h.1 hm;refine value _ _ ?_ hk;simp only[execOp,ho,hx];exact oX (run_range_map w t k e r es clock hu hb)
  |false=>obtain⟨v,w',hr,hk⟩:=aqC (h.2 hm);refine value v w' ?_ hk;simp only[execOp,ho];exact oX hr
 .rename_i it ho
  have h:=cL (ds:=ds) h;obtain⟨a,ha,h⟩:=BA h;obtain⟨v,w',hr,hk⟩:=asj (ty:=o.type) h;refine value v w' ?_ hk;simp only[execOp,ho,ha];exact oX hr
 .rename_i it ho
  have h:=cL (ds:=ds) h;obtain⟨a,ha,h⟩:=BA h;rcases h with⟨w',hr,hk⟩|⟨k,x,w',hr,hk⟩
  .refine value _ w' ?_ hk
   simp only[execOp,ho,ha];exact oX (hr _)
  .refine value _ w' ?_ hk
   simp only[execOp,ho,ha];exact oX (hr _)
 .obtain⟨v,hk,hr⟩:=aK5 (ds:=ds) h
  exact value v w (hr w λa u h=>h) hk
def MA(P:Program)(r:List Oper)(l:Fr)(o:Oper)(w:World)(K:KW)(E:List PanicEntry->World->Prop):Prop:=match o.op with
 |.entry it=>cO l it λv=>yg v λa=>aea P a (Mf o.dst 0 r) (Mf o.dst 1 r) w λk x=>K (.tuple ⟨[k,x]⟩) w
 |_=>qH P l o w K E
def Rt{P:Program}{r:List Oper}{l:Fr}{ds:List Deferred}{o:Oper}{w:World}{K:KW}{E:List PanicEntry->World->Prop}{next:Act->World->Prop}{Q:Exit->Act->World->Prop}
  (h:MA P r l o w K E)(hK:∀v w',K v w'->next ((act l ds).put o.dst v) w')(hE:∀c w',E c w'->Q (.panic c) (act l ds) w'):o.wp P (act l ds) w next Q:=by
 unfold MA at h;split at h
 .rename_i it ho
  have h:=cL (ds:=ds) h;obtain⟨a,ha,h⟩:=BA h;obtain⟨k,x,hr,hk⟩:=aqE h;have hx:(execOp (act l ds).eval o).run P w=.ok (.value (.tuple #[k,x])) w:=by simp only[execOp,ho,ha];exact oX hr
  unfold Oper.wp;rw[hx];exact hK _ _ hk
 .exact Gg h hK hE
def cS(w:World)(C:World->Prop):Prop:=C w
def dA(w:World)(e:TypeId)(sz bytes:Nat)(p:Option Addr)(n c:Nat)(q:Option Addr)(m:Nat)(K:Option Addr->Nat->World->Prop):Prop:=
 ∃xs news:List Value,aV w 0 e sz (.slice p n c) n xs/\news.length=m*sz/\(∀u∈news,u.oneCell'=true)/\
  (0<m->∃a,q=some a/\∀j u,news[j]?=some u->w.cell? (a.add j)=some u)/\n+m<=9223372036854775807/\(n+m)*bytes<=140737488355328/\
  ∀(p':Option Addr) (c':Nat) (w':World),aV w' 0 e sz (.slice p' (n+m) c') (n+m) (xs++news)->w.grownBy w' (Value.slice p n c).ownBlock->
   aI4 p p' (n+m) c c' w.heap.size->K p' c' w'
def af8(w:World)(e:TypeId)(sz bytes:Nat)(p:Option Addr)(n c:Nat)(b:List UInt8)(K:Option Addr->Nat->World->Prop):Prop:=
 ∃xs:List Value,aV w 0 e sz (.slice p n c) n xs/\n+b.length<=9223372036854775807/\(n+b.length)*bytes<=140737488355328/\
  ∀(p':Option Addr) (c':Nat) (w':World),aV w' 0 e sz (.slice p' (n+b.length) c') (n+b.length) (xs++b.map (λb=>Value.int .u8 b.toNat))->w.grownBy w' (Value.slice p n c).ownBlock->
   aI4 p p' (n+b.length) c c' w.heap.size->K p' c' w'
def cg(ws:List Nat)(l l':Fr):Prop:=l'.length=l.length/\∀t,t∉ws->l'[t]?=l[t]?
def cg.refl(ws:List Nat)(l:Fr):cg ws l l:=⟨rfl,λ_ _=>rfl⟩
def cg.trans{ws vs us:List Nat}{a b c:Fr}(h:cg ws a b)(k:cg vs b c)(hw:∀t∈ws,t∈us)(hv:∀t∈vs,t∈us):cg us a c:=
 ⟨k.1.trans h.1,λt ht=>(k.2 t λe=>ht (hv t e)).trans (h.2 t λe=>ht (hw t e))⟩
def cg.mono{ws us:List Nat}{a b:Fr}(h:cg ws a b)(hw:∀t∈ws,t∈us):cg us a b:=⟨h.1,λt ht=>h.2 t λe=>ht (hw t e)⟩
def cg.put(l:Fr)(d:Option Nat)(v:Value):cg d.toList l (put l d v):=by
 cases d with
 |none=>exact cg.refl _ _
 |some d=>refine⟨by simp[Vc.put],λt ht=>?_⟩;have:d≠t:=λe=>ht (by simp[e]);simp[Vc.put,pJ this]
def eR(ops:List Oper):List Nat:=ops.flatMap λo=>o.dst.toList
def ue(ops:List Oper)(l:Fr)(g:Option (Nat×Bool))(A B:Fr->Prop):Prop:=match g with
 |none=>A l
 |some (j,want)=>match ops[j]? with
  |some o=>match o.dst with
   |some d=>sH l d λv=>match v with
    |.bool b=>ak b (wL l d (.bool true) λl'=>ak want (A l') (B l')) (wL l d (.bool false) λl'=>ak want (B l') (A l'))
    |.tuple _=>B l
    |_=>False
   |none=>False
  |none=>False
def Gq{l:Fr}{d:Nat}{v:Value}(h:l[d]?=some v):l.set d v=l:=by
 apply aJc;intro i
 by_cases hi:d=i
 .subst hi
  have hd:=(jj.1 h).1;rw[qV hd,h]
 .rw[pJ hi]
def tw{ops:List Oper}{l:Fr}{ds:List Deferred}{o:Oper}{A B:Fr->Prop}(h:ue ops l o.guard A B):
  (Region.wanted o (yielded ⟨ops⟩ (act l ds).tmps)=true/\A l)\/(Region.wanted o (yielded ⟨ops⟩ (act l ds).tmps)=false/\B l):=by
 unfold ue at h;split at h
 .rename_i hg
  exact .inl ⟨by simp[Region.wanted,hg],h⟩
 .rename_i j want hg
  split at h
  .rename_i oj hj
   split at h
   .rename_i d hd
    obtain⟨v,hv,h⟩:=xM h;split at h
    .rename_i b
     have hy:yielded ⟨ops⟩ (act l ds).tmps j=some b:=by simp[yielded,hj,hd,act,hv]
     rw[aIs]at h;cases b with
     |true=>
      have h2:=Bz (h.1 rfl);rw[Gq hv]at h2;rw[aIs]at h2;cases want with
      |true=>exact .inl ⟨by simp[Region.wanted,hg,hy],h2.1 rfl⟩
      |false=>exact .inr ⟨by simp[Region.wanted,hg,hy],h2.2 rfl⟩
     |false=>
      have h2:=Bz (h.2 rfl);rw[Gq hv]at h2;rw[aIs]at h2;cases want with
      |true=>exact .inr ⟨by simp[Region.wanted,hg,hy],h2.1 rfl⟩
      |false=>exact .inl ⟨by simp[Region.wanted,hg,hy],h2.2 rfl⟩
    .have hy:yielded ⟨ops⟩ (act l ds).tmps j=none:=by
      simp[yielded,hj,hd,act,hv]
     exact .inr ⟨by simp[Region.wanted,hg,hy],h⟩
    .exact h.elim
   .exact h.elim
  .exact h.elim
def uB(P:Program)(ops:List Oper)(K:Fr->World->Prop)(E:List PanicEntry->World->Prop):List Oper->Fr->World->Prop
 |[],l,w=>K l w
 |o::r,l,w=>ue ops l o.guard (λl=>MA P r l o w (λv w'=>mT l o.dst v λl'=>uB P ops K E r l' w') E) (λl=>mT l o.dst undef λl'=>uB P ops K E r l' w)
def ZD{P:Program}{ops:List Oper}{ds:List Deferred}{K:Fr->World->Prop}{E:List PanicEntry->World->Prop}{Q:Exit->Act->World->Prop}
  :∀{rest:List Oper} {l:Fr} {w:World},(∀l' c w',cg (eR rest) l l'->E c w'->Q (.panic c) (act l' ds) w')->uB P ops K E rest l w->
   (∀l' w',cg (eR rest) l l'->K l' w'->Q .normal (act l' ds) w')->wpList P ⟨ops⟩ Q rest (act l ds) w:=by
 intro rest
 induction rest with
 |nil=>intro l w hE h hK;exact hK l w (cg.refl _ _) h
 |cons o r ih=>
  intro l w hE h hK;have next:∀v w',uB P ops K E r (put l o.dst v) w'->wpList P ⟨ops⟩ Q r ((act l ds).put o.dst v) w':=by
   intro v w' h;rw[aJB];have step:∀{l':Fr},cg (eR r) (put l o.dst v) l'->cg (eR (o::r)) l l':=by intro l' ha;exact(cg.put l o.dst v).trans ha (λt ht=>by simp only[eR,oS,aIL];exact .inl ht) (λt ht=>by simp only[eR,oS,aIL];exact .inr ht)
   refine ih (λl' c w' ha he=>hE l' c w' (step ha) he) h λl' w' ha hk=>hK l' w' ?_ hk;exact(cg.put l o.dst v).trans ha (λt ht=>by simp only[eR,oS,aIL];exact .inl ht) (λt ht=>by simp only[eR,oS,aIL];exact .inr ht)
  unfold wpList;rcases tw (ds:=ds) h with⟨hw,h⟩|⟨hw,h⟩
  .rw[aR hw]
   exact .inl (Rt h (λv w' hk=>next v w' (jk hk)) (λc w' he=>hE l c w' (cg.refl _ _) he))
  .rw[aL (by simp[hw])]
   exact next undef w (jk h)
def qOp(P:Program)(Rd:Addr->Value->Prop)(Cl:FuncId->List Value->Value->Prop)(l:Fr)(o:Oper)(K:Value->Prop):Prop:=match o.op with
 |.call ⟨.value f,⟨xs⟩,_⟩=>cO l f λf=>gN f λg first cap=>wM l xs λvs=>ak (dP P g) (D0 P o.type λv=>Cl g (first++(vs++cap)) v/\K v) False
 |_=>sO P l o Rd K
def adk{P:Program}{Rd:Addr->Value->Prop}{Cl:FuncId->List Value->Value->Prop}{l:Fr}{ds:List Deferred}{o:Oper}{K:Value->Prop}(h:qOp P Rd Cl l o K):
  ∃v,K v/\((∀w,Ca Rd w->(execOp (act l ds).eval o).run P w=.ok (.value v) w)\/∃g args,Cl g args v/\∀w,(execOp (act l ds).eval o).run P w=.ok (.enter g ⟨args⟩) w):=by
 unfold qOp at h;split at h
 .rename_i f xs ts ho
  obtain⟨g,first,cap,hf,h⟩:=F6 (cL (ds:=ds) h);obtain⟨hc,h⟩:=dR (aK0 (ds:=ds) h);obtain⟨v,h1,h2⟩:=Lb h;exact⟨v,h2,.inr ⟨_,_,h1,λw=>ab_ ho hf hc w⟩⟩
 .obtain⟨v,hk,hr⟩:=aK5 (ds:=ds) h
  exact⟨v,hk,.inl hr⟩
def yh(P:Program)(ops:List Oper)(Rd:Addr->Value->Prop)(Cl:FuncId->List Value->Value->Prop)(K:Fr->Prop):List Oper->Fr->Prop
 |[],l=>K l
 |o::r,l=>ue ops l o.guard (λl=>qOp P Rd Cl l o λv=>mT l o.dst v λl'=>yh P ops Rd Cl K r l') (λl=>mT l o.dst undef λl'=>yh P ops Rd Cl K r l')
def RR{l l':Fr}{o:Oper}{r:List Oper}{v:Value}(ha:cg (eR r) (put l o.dst v) l'):cg (eR (o::r)) l l':=
 (cg.put l o.dst v).trans ha (λt ht=>by simp only[eR,oS,aIL];exact .inl ht) (λt ht=>by simp only[eR,oS,aIL];exact .inr ht)
def Z8{P:Program}{ops:List Oper}{ds:List Deferred}{Rd:Addr->Value->Prop}{Cl:FuncId->List Value->Value->Prop}{C:World->Prop}{K:Fr->Prop}{Q:Act->Prop}
  (hR:∀w,C w->Ca Rd w)(hC:∀g args v,Cl g args v->∀w,C w->Calls P g ⟨args⟩ w λe w'=>e=.returned v/\C w'):
  ∀{rest:List Oper} {l:Fr},yh P ops Rd Cl K rest l->(∀l',cg (eR rest) l l'->K l'->Q (act l' ds))->wpQuiet P ⟨ops⟩ C Q rest (act l ds):=by
 intro rest
 induction rest with
 |nil=>intro l h hK;exact hK l (cg.refl _ _) h
 |cons o r ih=>
  intro l h hK;have next:∀v,yh P ops Rd Cl K r (put l o.dst v)->wpQuiet P ⟨ops⟩ C Q r ((act l ds).put o.dst v):=by intro v h;rw[aJB];exact ih h λl' ha hk=>hK l' (RR ha) hk
  unfold wpQuiet;rcases tw (ds:=ds) h with⟨hw,h⟩|⟨hw,h⟩
  .rw[aR hw]
   obtain⟨v,hk,hr⟩:=adk (ds:=ds) h;refine⟨v,λw hw=>?_,next v (jk hk)⟩;unfold Oper.quietAt;rcases hr with hr|⟨g,args,hcl,hr⟩
   .rw[hr w (hR w hw)];exact⟨rfl,rfl⟩
   .rw[hr w];exact⟨rfl,hC g args v hcl w hw⟩
  .rw[aL (by simp[hw])]
   exact next undef (jk h)
def aqF{P:Program}{ops:List Oper}{ds:List Deferred}{Rd:Addr->Value->Prop}{Cl:FuncId->List Value->Value->Prop}{w:World}{K:Fr->Prop}{Q:Act->Prop}
  (hR:Ca Rd w)(hC:∀g args v,Cl g args v->Calls P g ⟨args⟩ w λe w'=>e=.returned v/\w'=w):
  ∀{rest:List Oper} {l:Fr},yh P ops Rd Cl K rest l->(∀l',cg (eR rest) l l'->K l'->Q (act l' ds))->wpStill P ⟨ops⟩ w Q rest (act l ds):=by
 intro rest
 induction rest with
 |nil=>intro l h hK;exact hK l (cg.refl _ _) h
 |cons o r ih=>
  intro l h hK;have next:∀v,yh P ops Rd Cl K r (put l o.dst v)->wpStill P ⟨ops⟩ w Q r ((act l ds).put o.dst v):=by intro v h;rw[aJB];exact ih h λl' ha hk=>hK l' (RR ha) hk
  unfold wpStill;rcases tw (ds:=ds) h with⟨hw,h⟩|⟨hw,h⟩
  .rw[aR hw]
   obtain⟨v,hk,hr⟩:=adk (ds:=ds) h;unfold Oper.still;rcases hr with hr|⟨g,args,hcl,hr⟩
   .rw[hr w hR];exact⟨rfl,next v (jk hk)⟩
   .rw[hr w];exact⟨rfl,v,hC g args v hcl,next v (jk hk)⟩
  .rw[aL (by simp[hw])]
   exact next undef (jk h)
def wC:Op->Bool
 |.load .. |.convert .. =>true
 |_=>false
def GI:Op->Bool
 |.move _|.assign _|.pick .. |.load .. |.nilCheck _|.binOp .. |.unOp .. |.convert .. |.slice .. |.fieldAddr .. |.field .. |.indexAddr .. |.index .. |.extract .. |.makeInterface .. |.makeFunc .. |.build .. =>true
 |.call ⟨.builtin .len,_,_⟩|.call ⟨.builtin .cap,_,_⟩|.call ⟨.builtin .max,_,_⟩|.call ⟨.builtin .min,_,_⟩=>true
 |_=>false
def iT(ops:List Oper)(i:Nat):Bool:=match ops[i]? with
 |some o=>wC o.op
 |none=>false
def Ef(ops:List Oper):Nat->Nat->Nat->Bool
 |0,_,_=>false
 |n+1,j,i=>match ops[j]? with
  |some o=>o.after.toList.any λe=>Region.binds .any e&&(Nat.beq e.on i||Ef ops n e.on i)
  |none=>false
def mP(ops:List Oper)(j:Nat):Bool:=(List.range ops.length).any λi=>iT ops i&& !Nat.beq i j&& !Ef ops ops.length j i
def uf(ops:List Oper)(listed:Array Bool):Prop:=∀j o,ops[j]?=some o->listed.getD j false=true->∀e∈o.after,Region.binds .any e=true->listed.getD e.on false=true
def Ru{ops:List Oper}{listed:Array Bool}{i:Nat}(hc:uf ops listed)(hi:listed.getD i false=false):∀(n j:Nat),(listed.getD j false=true\/j∈Region.ready .any ⟨ops⟩ listed)->Ef ops n j i=false:=by
 intro n
 induction n with
 |zero=>intro j _;rfl
 |succ n ih=>
  intro j hj;unfold Ef;cases ho:ops[j]? with
  |none=>rfl
  |some o=>
   have hall:∀e∈o.after,Region.binds .any e=true->listed.getD e.on false=true:=by
    rcases hj with hj|hj
    .exact hc j o ho hj
    .obtain⟨_,o',ho',hall⟩:=mem_ready.1 hj
     have:o'=o:=by
      have h2:ops[j]?=some o':=by simpa using ho'
      rw[ho]at h2;exact(bM h2).symm
     subst this;exact hall
   simp only;rw[List.any_eq_false];intro e he hb;rw[eC]at hb;have hl:=hall e (by simpa using he) hb.1;rw[P7]at hb;rcases hb.2 with hb|hb
   .have:=aIT hb
    rw[this,hi]at hl;cases hl
   .rw[ih e.on (.inl hl)]at hb
    cases hb
def tA{ops:List Oper}{listed:Array Bool}{j:Nat}(hc:uf ops listed)(hj:j∈Region.ready .any ⟨ops⟩ listed):uf ops (listed.setIfInBounds j true):=by
 intro k o hk hl e he hb
 by_cases hkj:k=j
 .subst hkj
  obtain⟨_,o',ho',hall⟩:=mem_ready.1 hj;have:o'=o:=by
   have h2:ops[k]?=some o':=by simpa using ho'
   rw[hk]at h2;exact(bM h2).symm
  subst this;exact getD_set_true (hall e he hb)
 .rw[getD_set_ne false (aKS hkj)]at hl
  exact getD_set_true (hc k o hk hl e he hb)
def aLD{listed:Array Bool}{i:Nat}(h:listed.getD i true=false):listed.getD i false=false:=by
 rcases aJd i listed.size with h'|h'
 .simp[h']at h⊢;exact h
 .simp[JC h']at h
def DK{ops:List Oper}{listed:Array Bool}{i j:Nat}(hc:uf ops listed)(hi:listed.getD i true=false)(hne:j≠i)(hl:iT ops i=true)(hj:j∈Region.ready .any ⟨ops⟩ listed):mP ops j=true:=by
 unfold mP;rw[List.any_eq_true];have hlt:i<ops.length:=by
  unfold iT at hl;split at hl
  .rename_i o ho;exact(jj.1 ho).1
  .cases hl
 refine⟨i,vS.2 hlt,?_⟩;rw[eC,eC];refine⟨⟨hl,?_⟩,?_⟩
 .cases hb:Nat.beq i j with
  |false=>rfl
  |true=>exact(hne (aIT hb).symm).elim
 .rw[Ru hc (aLD hi) _ j (.inr hj)];rfl
def kR(ops:List Oper)(i:Nat):Bool:=match ops[i]? with
 |some o=>GI o.op
 |none=>false
def aLt(ops:List Oper)(S:World->Prop)(i:Nat)(w w':World):Prop:=(kR ops i=true->w'=w)/\(kR ops i=false->mP ops i=true->S w')
def BM(P:Program)(ops:List Oper)(Q:Exit->Act->World->Prop)(S:World->Prop):Nat->Array Bool->Act->World->Prop
 |0,listed,a,w=>Region.ready .any ⟨ops⟩ listed=[]/\Q .normal a w
 |fuel+1,listed,a,w=>
  (Region.ready .any ⟨ops⟩ listed=[]->Q .normal a w)/\
  ∀i∈Region.ready .any ⟨ops⟩ listed,wpOp P ⟨ops⟩ Q i (λa' w'=>aLt ops S i w w'/\BM P ops Q S fuel (listed.setIfInBounds i true) a' w') a w
section
variable{P:Program}{ops:List Oper}{Q:Exit->Act->World->Prop}{S:World->Prop}
def Z9:∀(fuel:Nat) (listed:Array Bool) (a:Act) (w:World),BM P ops Q S fuel listed a w->wpAny P .any ⟨ops⟩ Q fuel listed a w
 |0,_,_,_,h=>h
 |fuel+1,_,_,_,h=>⟨h.1,λi hi=>wpOp_mono (λa' w' h'=>Z9 fuel _ a' w' h'.2) (h.2 i hi)⟩
def aoS{i:Nat}{oi:Oper}{v:Value}(hq:kR ops i=true)(hi:(Array.mk ops)[i]?=some oi)(hsel:∀(j:Nat) (o:Oper) cs b,(Array.mk ops)[j]?=some o->o.op≠.select cs b)
  (hQ:∀c a w,Q (.panic c) (a.put oi.dst v) w->Q (.panic c) a w):
  ∀(fuel:Nat) (listed:Array Bool) (a:Act) (w:World),uf ops listed->
   (∀j oj,(Array.mk ops)[j]?=some oj->j≠i->listed.getD j true=false->(∀e∈oj.after,Region.binds .any e=true->e.on≠i)->oi.apart ⟨ops⟩ oj=true)->
   i∈Region.ready .any ⟨ops⟩ listed->YieldsIf P ⟨ops⟩ (λw=>iT ops i=true->S w) oi v a->(iT ops i=true->S w)->
   BM P ops Q S fuel (listed.setIfInBounds i true) (a.put oi.dst v) w->BM P ops Q S (fuel+1) listed a w:=by
 intro fuel
 induction fuel with
 |zero=>
  intro listed a w hcl _ hr hy hS H;refine⟨λh=>(by rw[h]at hr;cases hr),λj hj=>?_⟩
  by_cases hji:j=i
  .subst hji;exact hy.wpOp hi hS ⟨⟨λ_=>rfl,λh=>by rw[hq]at h;cases h⟩,H⟩
  .have:=ready_mono hj hji
   rw[H.1]at this;cases this
 |succ fuel ih=>
  intro listed a w hcl hfree hr hy hS H;refine⟨λh=>(by rw[h]at hr;cases hr),λj hj=>?_⟩
  by_cases hji:j=i
  .subst hji;exact hy.wpOp hi hS ⟨⟨λ_=>rfl,λh=>by rw[hq]at h;cases h⟩,H⟩
  .have h1:=H.2 j (ready_mono hj hji)
   obtain⟨Ax,oj,sP,hall⟩:=mem_ready.1 hj;have hnot:∀e∈oj.after,Region.binds .any e=true->e.on≠i:=λe he hb heq=>by
    have h1:=hall e he hb;have h0:=(mem_ready.1 hr).1;rw[heq]at h1;rcases aJd i listed.size with h'|h'
    .simp[h']at h0 h1;rw[h0]at h1;cases h1
    .simp[JC h']at h1
   have h2:=wpOp_putIf sP (hfree j oj sP hji Ax hnot) (λcs b=>hsel i oi cs b hi) (λcs b=>hsel j oj cs b sP) hQ hy h1;have DR:∀k ok,(Array.mk ops)[k]?=some ok->k≠i->(listed.setIfInBounds j true).getD k true=false->
     (∀e∈ok.after,Region.binds .any e=true->e.on≠i)->oi.apart ⟨ops⟩ ok=true:=λk ok hk hki hun hno=>by
    refine hfree k ok hk hki ?_ hno
    by_cases hjk:j=k
    .subst hjk;exact Ax
    .rw[getD_set_ne true hjk]at hun;exact hun
   refine wpOp_mono (λa' w' h3=>⟨h3.2.1,ih (listed.setIfInBounds j true) a' w' (tA hcl hj) DR (ready_mono hr (aKS hji)) h3.1 (λhl=>?_) ?_⟩) h2
   .cases AI:kR ops j with
    |true=>rw[h3.2.1.1 AI];exact hS hl
    |false=>exact h3.2.1.2 AI (DK hcl (mem_ready.1 hr).1 hji hl hj)
   .rw[OJ _ _ hji]
    exact h3.2.2
end
def aI0(P:Program)(ops:List Oper)(S:World->Prop)(K:Fr->World->Prop)(E:List PanicEntry->World->Prop):Nat->Array Bool->Fr->World->Prop
 |0,listed,l,w=>ak (Region.ready .any ⟨ops⟩ listed).isEmpty (K l w) False
 |n+1,listed,l,w=>match Region.ready .any ⟨ops⟩ listed with
  |[]=>K l w
  |i::rs=>match(i::rs).find? (kR ops)with
   |some i=>match ops[i]? with
    |some o=>ak (Region.free .any ⟨ops⟩ listed i) (ue ops l o.guard
      (λl=>sO P l o (λa v=>∀w1,S w1->w1.cell? a=some v) λv=>mT l o.dst v λl'=>aI0 P ops S K E n (listed.setIfInBounds i true) l' w)
      (λl=>mT l o.dst undef λl'=>aI0 P ops S K E n (listed.setIfInBounds i true) l' w)) False
    |none=>False
   |none=>Hw (λi=>match ops[i]? with
    |some o=>ue ops l o.guard
      (λl=>qH P l o w (λv w'=>mT l o.dst v λl'=>ak (mP ops i) (S w'/\aI0 P ops S K E n (listed.setIfInBounds i true) l' w') (aI0 P ops S K E n (listed.setIfInBounds i true) l' w')) E)
      (λl=>mT l o.dst undef λl'=>ak (mP ops i) (S w/\aI0 P ops S K E n (listed.setIfInBounds i true) l' w) (aI0 P ops S K E n (listed.setIfInBounds i true) l' w))
    |none=>False) (i::rs)
where
 Hw (f:Nat->Prop):List Nat->Prop
  |[]=>True
  |[i]=>f i
  |i::r=>f i/\Hw f r
def RS{f:Nat->Prop}{l:List Nat}(h:aI0.Hw f l):∀i∈l,f i:=by
 induction l with
 |nil=>intro i hi;cases hi
 |cons x r ih=>
  intro i hi;cases r with
  |nil=>
   obtain rfl:i=x:=by simpa using hi
   exact h
  |cons y r=>
   rcases iQ.1 hi with rfl|hi
   .exact h.1
   .exact ih h.2 i hi
def Rv{P:Program}{o:Oper}{l:Fr}{Rd Nl:Addr->Value->Prop}{K:Value->Prop}(hl:wC o.op=false)(h:sO P l o Rd K):sO P l o Nl K:=by
 unfold sO at h⊢;split at h<;>first|exact h|skip
 .rename_i t x ho
  rw[ho]at hl;cases hl
 .rename_i s d x ho
  rw[ho]at hl;cases hl
def Bu{ops:List Oper}{l l':Fr}{i:Nat}{o:Oper}{v:Value}(hi:ops[i]?=some o)(h:cg (eR ops) l l'):cg (eR ops) l (put l' o.dst v):=by refine h.trans (cg.put l' o.dst v) (λt ht=>ht) (λt ht=>?_);simp only[eR,PT];exact⟨o,tq hi,ht⟩
def Rw{op:Op}(h:wC op=true):GI op=true:=by cases op<;>simp[wC]at h<;>rfl
def apy{P:Program}{ops:List Oper}{ds:List Deferred}{S:World->Prop}{K:Fr->World->Prop}{E:List PanicEntry->World->Prop}{Q:Exit->Act->World->Prop}{l0:Fr}
  (hsel:Region.noSelect ⟨ops⟩=true)(hQ:∀o∈ops,∀c a v w,Q (.panic c) (a.put o.dst v) w->Q (.panic c) a w)(hE:∀l' c w',cg (eR ops) l0 l'->E c w'->Q (.panic c) (act l' ds) w')
  (hK:∀l' w',cg (eR ops) l0 l'->K l' w'->Q .normal (act l' ds) w'):
  ∀(n:Nat) (listed:Array Bool) (l:Fr) (w:World),aI0 P ops S K E n listed l w->uf ops listed->cg (eR ops) l0 l->((∃i,listed.getD i true=false/\iT ops i=true)->S w)->
   BM P ops Q S n listed (act l ds) w:=by
 intro n
 induction n with
 |zero=>intro listed l w h hc ha hS;obtain⟨hr,h⟩:=dR h;exact⟨J4.1 hr,hK l w ha h⟩
 |succ n ih=>
  intro listed l w h hc ha hS;unfold aI0 at h;split at h
  .rename_i hr
   exact⟨λ_=>hK l w ha h,by rw[hr];simp⟩
  .rename_i i0 rs hr
   split at h
   .rename_i i hf
    have hq:kR ops i=true:=J9 hf;have hmem:i∈Region.ready .any ⟨ops⟩ listed:=by rw[hr];exact Jz hf
    split at h
    .rename_i o ho
     obtain⟨hfree,h⟩:=dR h;have qI:(Array.mk ops)[i]?=some o:=by simpa using ho
     have hun:=(mem_ready.1 hmem).1;have step:∀v,YieldsIf P ⟨ops⟩ (λw=>iT ops i=true->S w) o v (act l ds)->aI0 P ops S K E n (listed.setIfInBounds i true) (put l o.dst v) w->BM P ops Q S (n+1) listed (act l ds) w:=by
      intro v hy hn;refine aoS hq qI (Region.noSelect_spec hsel) (λc a w h=>hQ o (tq ho) c a _ w h) n listed _ w hc (Region.free_spec qI hfree) hmem hy (λhl=>hS ⟨i,hun,hl⟩) ?_;rw[aJB];refine ih _ _ w hn (tA hc hmem) (Bu ho ha) ?_;rintro⟨k,hk,hl⟩;refine hS ⟨k,?_,hl⟩
      by_cases hki:i=k
      .subst hki
       exact hun
      .rwa[getD_set_ne true hki]at hk
     rcases tw (ds:=ds) h with⟨hw,h⟩|⟨hw,h⟩
     .cases hl:wC o.op with
      |false=>obtain⟨v,hk,hrun⟩:=aK5 (ds:=ds) (Rv (Nl:=λ_ _=>False) hl h);exact step v (.inl ⟨hw,λw _=>hrun w (λ_ _ h=>h.elim)⟩) (jk hk)
      |true=>
       obtain⟨v,hk,hrun⟩:=aK5 (ds:=ds) h;have hlb:iT ops i=true:=by unfold iT;rw[ho];exact hl
       exact step v (.inl ⟨hw,λw hs=>hrun w (λa u h=>h w (hs hlb))⟩) (jk hk)
     .exact step undef (.inr ⟨hw,rfl⟩) (jk h)
    .exact h.elim
   .rename_i hnone
    have h:=RS h;refine⟨λh0=>(by rw[hr]at h0;cases h0),λi hi=>?_⟩;have hi':i∈i0::rs:=by rw[<-hr];exact hi
    have h:=h i hi';have hq:kR ops i=false:=by have:=Pw.1 hnone i hi';simpa using this
    split at h
    .rename_i o ho
     have qI:(Array.mk ops)[i]?=some o:=by simpa using ho
     have next:∀v w',ak (mP ops i) (S w'/\aI0 P ops S K E n (listed.setIfInBounds i true) (put l o.dst v) w') (aI0 P ops S K E n (listed.setIfInBounds i true) (put l o.dst v) w')->
       aLt ops S i w w'/\BM P ops Q S n (listed.setIfInBounds i true) ((act l ds).put o.dst v) w':=by
      intro v w' h;rw[aJB];have rest:aI0 P ops S K E n (listed.setIfInBounds i true) (put l o.dst v) w':=by
       rw[aIs]at h;cases hb:mP ops i with
       |true=>exact(h.1 hb).2
       |false=>exact h.2 hb
      have need:mP ops i=true->S w':=λhb=>by rw[aIs]at h;exact(h.1 hb).1
      refine⟨⟨λaJ5=>(by rw[hq]at aJ5;cases aJ5),λ_=>need⟩,ih _ _ w' rest (tA hc hi) (Bu ho ha) ?_⟩;rintro⟨k,hk,hl⟩
      by_cases hki:i=k
      .subst hki
       unfold iT at hl;unfold kR at hq;rw[ho]at hl hq;have h1:wC o.op=true:=hl;have h2:GI o.op=false:=hq;rw[Rw h1]at h2;cases h2
      .rw[getD_set_ne true hki]at hk
       exact need (DK hc hk hki hl hi)
     unfold wpOp;simp only[qI];rcases tw (ds:=ds) h with⟨hw,h⟩|⟨hw,h⟩
     .rw[aR hw]
      exact .inl (Gg h (λv w' hk=>next v w' (jk hk)) (λc w' he=>hE l c w' ha he))
     .rw[aL (by simp[hw])]
      exact next undef w (jk h)
    .exact h.elim
def yj(ops:List Oper)(j:Nat):Bool:=(List.range ops.length).all λi=>!(iT ops i)||Ef ops ops.length j i||Ef ops ops.length i j
def aeb(ops:List Oper)(S S':World->Prop)(i:Nat)(w w':World):Prop:=(kR ops i=true->w'=w/\S'=S)/\(kR ops i=false->(yj ops i=true->S' w')/\(yj ops i=false->S'=S/\(mP ops i=true->S w')))
def avy{ops:List Oper}{listed:Array Bool}{i j:Nat}(hc:uf ops listed)(hi:i∈Region.ready .any ⟨ops⟩ listed)(hj:j∈Region.ready .any ⟨ops⟩ listed)(hl:iT ops i=true):yj ops j=false:=by
 cases hb:yj ops j with
 |false=>rfl
 |true=>
  exfalso;unfold yj at hb;rw[ql]at hb;have hlt:i<ops.length:=by
   unfold iT at hl;split at hl
   .rename_i o ho;exact(jj.1 ho).1
   .cases hl
  have h:=hb i (vS.2 hlt);rw[hl,Ru hc (aLD (mem_ready.1 hi).1) _ j (.inr hj),Ru hc (aLD (mem_ready.1 hj).1) _ i (.inr hi)]at h;cases h
def BN(P:Program)(ops:List Oper)(Q:Exit->Act->World->Prop):Nat->Array Bool->(World->Prop)->Act->World->Prop
 |0,listed,_,a,w=>Region.ready .any ⟨ops⟩ listed=[]/\Q .normal a w
 |fuel+1,listed,S,a,w=>
  (Region.ready .any ⟨ops⟩ listed=[]->Q .normal a w)/\
  ∀i∈Region.ready .any ⟨ops⟩ listed,wpOp P ⟨ops⟩ Q i (λa' w'=>∃S',aeb ops S S' i w w'/\BN P ops Q fuel (listed.setIfInBounds i true) S' a' w') a w
section
variable{P:Program}{ops:List Oper}{Q:Exit->Act->World->Prop}
def Z_:∀(fuel:Nat) (listed:Array Bool) (S:World->Prop) (a:Act) (w:World),BN P ops Q fuel listed S a w->wpAny P .any ⟨ops⟩ Q fuel listed a w
 |0,_,_,_,_,h=>h
 |fuel+1,_,_,_,_,h=>⟨h.1,λi hi=>wpOp_mono (λa' w' h'=>by obtain⟨S',_,h2⟩:=h';exact Z_ fuel _ S' a' w' h2) (h.2 i hi)⟩
def aoT{i:Nat}{oi:Oper}{v:Value}(hq:kR ops i=true)(hi:(Array.mk ops)[i]?=some oi)(hsel:∀(j:Nat) (o:Oper) cs b,(Array.mk ops)[j]?=some o->o.op≠.select cs b)
  (hQ:∀c a w,Q (.panic c) (a.put oi.dst v) w->Q (.panic c) a w):
  ∀(fuel:Nat) (listed:Array Bool) (S:World->Prop) (a:Act) (w:World),uf ops listed->
   (∀j oj,(Array.mk ops)[j]?=some oj->j≠i->listed.getD j true=false->(∀e∈oj.after,Region.binds .any e=true->e.on≠i)->oi.apart ⟨ops⟩ oj=true)->
   i∈Region.ready .any ⟨ops⟩ listed->YieldsIf P ⟨ops⟩ (λw=>iT ops i=true->S w) oi v a->(iT ops i=true->S w)->
   BN P ops Q fuel (listed.setIfInBounds i true) S (a.put oi.dst v) w->BN P ops Q (fuel+1) listed S a w:=by
 intro fuel
 induction fuel with
 |zero=>
  intro listed S a w hcl _ hr hy hS H;refine⟨λh=>(by rw[h]at hr;cases hr),λj hj=>?_⟩
  by_cases hji:j=i
  .subst hji;exact hy.wpOp hi hS ⟨S,⟨λ_=>⟨rfl,rfl⟩,λh=>by rw[hq]at h;cases h⟩,H⟩
  .have:=ready_mono hj hji
   rw[H.1]at this;cases this
 |succ fuel ih=>
  intro listed S a w hcl hfree hr hy hS H;refine⟨λh=>(by rw[h]at hr;cases hr),λj hj=>?_⟩
  by_cases hji:j=i
  .subst hji;exact hy.wpOp hi hS ⟨S,⟨λ_=>⟨rfl,rfl⟩,λh=>by rw[hq]at h;cases h⟩,H⟩
  .have h1:=H.2 j (ready_mono hj hji)
   obtain⟨Ax,oj,sP,hall⟩:=mem_ready.1 hj;have hnot:∀e∈oj.after,Region.binds .any e=true->e.on≠i:=λe he hb heq=>by
    have h1:=hall e he hb;have h0:=(mem_ready.1 hr).1;rw[heq]at h1;rcases aJd i listed.size with h'|h'
    .simp[h']at h0 h1;rw[h0]at h1;cases h1
    .simp[JC h']at h1
   have h2:=wpOp_putIf sP (hfree j oj sP hji Ax hnot) (λcs b=>hsel i oi cs b hi) (λcs b=>hsel j oj cs b sP) hQ hy h1;have DR:∀k ok,(Array.mk ops)[k]?=some ok->k≠i->(listed.setIfInBounds j true).getD k true=false->
     (∀e∈ok.after,Region.binds .any e=true->e.on≠i)->oi.apart ⟨ops⟩ ok=true:=λk ok hk hki hun hno=>by
    refine hfree k ok hk hki ?_ hno
    by_cases hjk:j=k
    .subst hjk;exact Ax
    .rw[getD_set_ne true hjk]at hun;exact hun
   refine wpOp_mono (λa' w' h3=>?_) h2;obtain⟨hy',S',hk,uC⟩:=h3;rw[OJ _ _ (aKS hji)]at uC;refine⟨S',hk,?_⟩;cases hl:iT ops i with
   |true=>
    have hb:=avy hcl hr hj hl;have hSS:S'=S/\S w':=by
     cases AI:kR ops j with
     |true=>obtain⟨e1,e2⟩:=hk.1 AI;exact⟨e2,by rw[e1];exact hS hl⟩
     |false=>obtain⟨e1,e2⟩:=(hk.2 AI).2 hb;exact⟨e1,e2 (DK hcl (mem_ready.1 hr).1 hji hl hj)⟩
    obtain⟨rfl,EF⟩:=hSS;exact ih (listed.setIfInBounds j true) S' a' w' (tA hcl hj) DR (ready_mono hr (aKS hji)) hy' (λ_=>EF) uC
   |false=>refine ih (listed.setIfInBounds j true) S' a' w' (tA hcl hj) DR (ready_mono hr (aKS hji)) ?_ (λh=>by rw[hl]at h;cases h) uC;exact hy'.imp (λh=>⟨h.1,λw _=>h.2 w (λh=>by rw[hl]at h;cases h)⟩) id
end
def mQ(P:Program)(ops:List Oper)(K:Fr->World->Prop)(E:List PanicEntry->World->Prop):Nat->Array Bool->(World->Prop)->Fr->World->Prop
 |0,listed,_,l,w=>ak (Region.ready .any ⟨ops⟩ listed).isEmpty (K l w) False
 |n+1,listed,S,l,w=>match Region.ready .any ⟨ops⟩ listed with
  |[]=>K l w
  |i::rs=>match(i::rs).find? (kR ops)with
   |some i=>match ops[i]? with
    |some o=>ak (Region.free .any ⟨ops⟩ listed i) (ue ops l o.guard
      (λl=>sO P l o (λa v=>∀w1,S w1->w1.cell? a=some v) λv=>mT l o.dst v λl'=>mQ P ops K E n (listed.setIfInBounds i true) S l' w)
      (λl=>mT l o.dst undef λl'=>mQ P ops K E n (listed.setIfInBounds i true) S l' w)) False
    |none=>False
   |none=>aI0.Hw (λi=>match ops[i]? with
    |some o=>ue ops l o.guard
      (λl=>qH P l o w (λv w'=>mT l o.dst v λl'=>ak (yj ops i) (∃S',S' w'/\mQ P ops K E n (listed.setIfInBounds i true) S' l' w')
       (ak (mP ops i) (S w'/\mQ P ops K E n (listed.setIfInBounds i true) S l' w') (mQ P ops K E n (listed.setIfInBounds i true) S l' w'))) E)
      (λl=>mT l o.dst undef λl'=>ak (yj ops i) (∃S',S' w/\mQ P ops K E n (listed.setIfInBounds i true) S' l' w)
       (ak (mP ops i) (S w/\mQ P ops K E n (listed.setIfInBounds i true) S l' w) (mQ P ops K E n (listed.setIfInBounds i true) S l' w)))
    |none=>False) (i::rs)
def apz{P:Program}{ops:List Oper}{ds:List Deferred}{K:Fr->World->Prop}{E:List PanicEntry->World->Prop}{Q:Exit->Act->World->Prop}{l0:Fr}
  (hsel:Region.noSelect ⟨ops⟩=true)(hQ:∀o∈ops,∀c a v w,Q (.panic c) (a.put o.dst v) w->Q (.panic c) a w)(hE:∀l' c w',cg (eR ops) l0 l'->E c w'->Q (.panic c) (act l' ds) w')
  (hK:∀l' w',cg (eR ops) l0 l'->K l' w'->Q .normal (act l' ds) w'):
  ∀(n:Nat) (listed:Array Bool) (S:World->Prop) (l:Fr) (w:World),mQ P ops K E n listed S l w->uf ops listed->cg (eR ops) l0 l->((∃i,listed.getD i true=false/\iT ops i=true)->S w)->
   BN P ops Q n listed S (act l ds) w:=by
 intro n
 induction n with
 |zero=>intro listed S l w h hc ha hS;obtain⟨hr,h⟩:=dR h;exact⟨J4.1 hr,hK l w ha h⟩
 |succ n ih=>
  intro listed S l w h hc ha hS;unfold mQ at h;split at h
  .rename_i hr
   exact⟨λ_=>hK l w ha h,by rw[hr];simp⟩
  .rename_i i0 rs hr
   split at h
   .rename_i i hf
    have hq:kR ops i=true:=J9 hf;have hmem:i∈Region.ready .any ⟨ops⟩ listed:=by rw[hr];exact Jz hf
    split at h
    .rename_i o ho
     obtain⟨hfree,h⟩:=dR h;have qI:(Array.mk ops)[i]?=some o:=by simpa using ho
     have hun:=(mem_ready.1 hmem).1;have step:∀v,YieldsIf P ⟨ops⟩ (λw=>iT ops i=true->S w) o v (act l ds)->mQ P ops K E n (listed.setIfInBounds i true) S (put l o.dst v) w->BN P ops Q (n+1) listed S (act l ds) w:=by
      intro v hy hn;refine aoT hq qI (Region.noSelect_spec hsel) (λc a w h=>hQ o (tq ho) c a _ w h) n listed S _ w hc (Region.free_spec qI hfree) hmem hy (λhl=>hS ⟨i,hun,hl⟩) ?_;rw[aJB];refine ih _ S _ w hn (tA hc hmem) (Bu ho ha) ?_;rintro⟨k,hk,hl⟩;refine hS ⟨k,?_,hl⟩
      by_cases hki:i=k
      .subst hki
       exact hun
      .rwa[getD_set_ne true hki]at hk
     rcases tw (ds:=ds) h with⟨hw,h⟩|⟨hw,h⟩
     .cases hl:wC o.op with
      |false=>obtain⟨v,hk,hrun⟩:=aK5 (ds:=ds) (Rv (Nl:=λ_ _=>False) hl h);exact step v (.inl ⟨hw,λw _=>hrun w (λ_ _ h=>h.elim)⟩) (jk hk)
      |true=>
       obtain⟨v,hk,hrun⟩:=aK5 (ds:=ds) h;have hlb:iT ops i=true:=by unfold iT;rw[ho];exact hl
       exact step v (.inl ⟨hw,λw hs=>hrun w (λa u h=>h w (hs hlb))⟩) (jk hk)
     .exact step undef (.inr ⟨hw,rfl⟩) (jk h)
    .exact h.elim
   .rename_i hnone
    have h:=RS h;refine⟨λh0=>(by rw[hr]at h0;cases h0),λi hi=>?_⟩;have hi':i∈i0::rs:=by rw[<-hr];exact hi
    have h:=h i hi';have hq:kR ops i=false:=by have:=Pw.1 hnone i hi';simpa using this
    split at h
    .rename_i o ho
     have qI:(Array.mk ops)[i]?=some o:=by simpa using ho
     have next:∀v w',ak (yj ops i) (∃S',S' w'/\mQ P ops K E n (listed.setIfInBounds i true) S' (put l o.dst v) w')
       (ak (mP ops i) (S w'/\mQ P ops K E n (listed.setIfInBounds i true) S (put l o.dst v) w') (mQ P ops K E n (listed.setIfInBounds i true) S (put l o.dst v) w'))->
       ∃S',aeb ops S S' i w w'/\BN P ops Q n (listed.setIfInBounds i true) S' ((act l ds).put o.dst v) w':=by
      intro v w' h;rw[aJB];rw[aIs]at h;cases hb:yj ops i with
      |true=>obtain⟨S',h1,h2⟩:=h.1 hb;exact⟨S',⟨λaJ5=>(by rw[hq]at aJ5;cases aJ5),λ_=>⟨λ_=>h1,λh=>by rw[hb]at h;cases h⟩⟩,ih _ S' _ w' h2 (tA hc hi) (Bu ho ha) (λ_=>h1)⟩
      |false=>
       have h:=h.2 hb;have rest:mQ P ops K E n (listed.setIfInBounds i true) S (put l o.dst v) w':=by
        rw[aIs]at h;cases hb:mP ops i with
        |true=>exact(h.1 hb).2
        |false=>exact h.2 hb
       have need:mP ops i=true->S w':=λhb=>by rw[aIs]at h;exact(h.1 hb).1
       refine⟨S,⟨λaJ5=>(by rw[hq]at aJ5;cases aJ5),λ_=>⟨λh=>(by rw[hb]at h;cases h),λ_=>⟨rfl,need⟩⟩⟩,ih _ S _ w' rest (tA hc hi) (Bu ho ha) ?_⟩;rintro⟨k,hk,hl⟩
       by_cases hki:i=k
       .subst hki
        unfold iT at hl;unfold kR at hq;rw[ho]at hl hq;have h1:wC o.op=true:=hl;have h2:GI o.op=false:=hq;rw[Rw h1]at h2;cases h2
       .rw[getD_set_ne true hki]at hk
        exact need (DK hc hk hki hl hi)
     unfold wpOp;simp only[qI];rcases tw (ds:=ds) h with⟨hw,h⟩|⟨hw,h⟩
     .rw[aR hw]
      exact .inl (Gg h (λv w' hk=>next v w' (jk hk)) (λc w' he=>hE l c w' ha he))
     .rw[aL (by simp[hw])]
      exact next undef w (jk h)
    .exact h.elim
inductive Mh where
 |still
 |tail(n:Nat)
 |cls
 |held
 |mQ
def Cls(P:Program)(C:World->Prop)(g:FuncId)(args:List Value)(v:Value):Prop:=∀w,C w->Calls P g ⟨args⟩ w λe w'=>e=.returned v/\C w'
def drawn(P:Program)(m:Mh)(ops:List Oper)(K:Fr->World->Prop)(E:List PanicEntry->World->Prop)(l:Fr)(w:World):Prop:=match m with
 |.still=>ak (P.follows .mixedOrders&&Region.lexB .any ⟨ops⟩) (yh P ops (λa v=>w.cell? a=some v) (λg args v=>Calls P g ⟨args⟩ w.drew λe w'=>e=.returned v/\w'=w.drew) (λl'=>K l' w.drew) ops l) False
 |.tail n=>ak (P.follows .mixedOrders&&Region.lexTailB .any ⟨ops⟩ n) (yh P ops (λa v=>w.cell? a=some v) (λg args v=>Calls P g ⟨args⟩ w.drew λe w'=>e=.returned v/\w'=w.drew)
   (λl'=>uB P ops K E (ops.drop n) l' w.drew) (ops.take n) l) False
 |.cls=>ak (P.follows .mixedOrders&&Region.lexB .any ⟨ops⟩) (∃C:World->Prop,C w.drew/\yh P ops (λa v=>∀w1,C w1->w1.cell? a=some v) (Cls P C) (λl'=>∀w1,C w1->K l' w1) ops l) False
 |.held=>ak (P.follows .mixedOrders&&Region.noSelect ⟨ops⟩) (∃S:World->Prop,S w.drew/\aI0 P ops S K E ops.length (Array.replicate ops.length false) l w.drew) False
 |.mQ=>ak (P.follows .mixedOrders&&Region.noSelect ⟨ops⟩) (∃S:World->Prop,S w.drew/\Vc.mQ P ops K E ops.length (Array.replicate ops.length false) S l w.drew) False
def apA(a b:List Oper):eR (a++b)=eR a++eR b:=by simp[eR]
def F7{P:Program}{m:Mh}{id:Nat}{ops:List Oper}{ds:List Deferred}{K:Fr->World->Prop}{E:List PanicEntry->World->Prop}{Q:Exit->Act->World->Prop}{l:Fr}{w:World}
  (h:drawn P m ops K E l w)(hK:∀l' w',cg (eR ops) l l'->K l' w'->Q .normal (act l' ds) w')(hE:∀l' c w',cg (eR ops) l l'->E c w'->Q (.panic c) (act l' ds) w'):
  (Code.region id ⟨ops⟩ true).wp P Q (act l ds) w:=by
 cases m with
 |still=>obtain⟨hb,h⟩:=dR h;rw[eC]at hb;refine wp_region_quiet (C:=λw'=>w'=w.drew) hb.1 hb.2 rfl ?_;exact Z8 (λw1 e=>by subst e;exact λa u h=>h) (λg args v hc w1 e=>by subst e;exact hc) h λl' ha hk w1 e=>by subst e;exact hK l' _ ha hk
 |tail n=>
  obtain⟨hb,h⟩:=dR h;rw[eC]at hb;refine wp_region_still_tail n hb.1 hb.2 ?_;refine aqF (w:=w.drew) (λa u h=>h) (λg args v hc=>hc) h λl' ha hk=>?_;have e:eR ops=eR (ops.take n)++eR (ops.drop n):=by rw[<-apA,oQ]
  have step:∀{l2:Fr},cg (eR (ops.drop n)) l' l2->cg (eR ops) l l2:=by intro l2 Co;rw[e];exact ha.trans Co (λt ht=>aJx _ ht) (λt ht=>tj _ ht)
  exact ZD (λl2 c w2 Co he=>hE l2 c w2 (step Co) he) hk λl2 w2 Co hk2=>hK l2 w2 (step Co) hk2
 |cls=>obtain⟨hb,C,hc,h⟩:=dR h;rw[eC]at hb;refine wp_region_quiet (C:=C) hb.1 hb.2 hc ?_;exact Z8 (λw1 e=>λa u h=>h w1 e) (λg args v hc=>hc) h λl' ha hk w1 e=>hK l' w1 ha (hk w1 e)
 |held=>
  obtain⟨hb,S,hs,h⟩:=dR h;rw[eC]at hb
  let Q':Exit->Act->World->Prop:=λe a w=>match e with
   |.normal=>Q .normal a w
   |.panic c=>a.defers=ds/\cg (eR ops) l a.tmps.toList/\E c w
   |_=>False
  have h1:(Code.region id ⟨ops⟩ true).wp P Q' (act l ds) w:=by
   refine wp_region_any hb.1 (Z9 (S:=S) _ _ _ _ ?_);refine apy (Q:=Q') (l0:=l) hb.2 (λo ho c a v w h=>?_) (λl' c w' ha he=>⟨rfl,ha,he⟩) (λl' w' ha hk=>hK l' w' ha hk) _ _ _ _ h ?_ (cg.refl _ _) (λ_=>hs)
   .refine⟨?_,?_,h.2.2⟩
    .have:=h.1
     cases hd:o.dst with
     |none=>rw[hd]at this;exact this
     |some d=>rw[hd]at this;exact this
    .have h2:=h.2.1
     cases hd:o.dst with
     |none=>rw[hd]at h2;exact h2
     |some d=>
      rw[hd]at h2;have hmem:d∈eR ops:=by simp only[eR,PT];exact⟨o,ho,by rw[hd];simp⟩
      refine⟨?_,λt ht=>?_⟩
      .have:=h2.1
       simpa[Act.put]using this
      .have:=h2.2 t ht
       have hne:d≠t:=λe=>ht (e▸hmem);simpa[Act.put,pJ hne]using this
   .intro j o _ hl
    exfalso;simp only[Fg,OK]at hl;split at hl<;>cases hl
  refine Go.wp_mono h1 λe a w' hq=>?_;cases e<;>simp only[Q']at hq<;>first|exact hq|exact hq.elim|skip
  obtain⟨hd,ha,he⟩:=hq;have:=hE a.tmps.toList _ w' ha he;have e:act a.tmps.toList ds=a:=by cases a;cases hd;rfl
  rwa[e]at this
 |mQ=>
  obtain⟨hb,S,hs,h⟩:=dR h;rw[eC]at hb
  let Q':Exit->Act->World->Prop:=λe a w=>match e with
   |.normal=>Q .normal a w
   |.panic c=>a.defers=ds/\cg (eR ops) l a.tmps.toList/\E c w
   |_=>False
  have h1:(Code.region id ⟨ops⟩ true).wp P Q' (act l ds) w:=by
   refine wp_region_any hb.1 (Z_ _ _ S _ _ ?_);refine apz (Q:=Q') (l0:=l) hb.2 (λo ho c a v w h=>?_) (λl' c w' ha he=>⟨rfl,ha,he⟩) (λl' w' ha hk=>hK l' w' ha hk) _ _ _ _ _ h ?_ (cg.refl _ _) (λ_=>hs)
   .refine⟨?_,?_,h.2.2⟩
    .have:=h.1
     cases hd:o.dst with
     |none=>rw[hd]at this;exact this
     |some d=>rw[hd]at this;exact this
    .have h2:=h.2.1
     cases hd:o.dst with
     |none=>rw[hd]at h2;exact h2
     |some d=>
      rw[hd]at h2;have hmem:d∈eR ops:=by simp only[eR,PT];exact⟨o,ho,by rw[hd];simp⟩
      refine⟨?_,λt ht=>?_⟩
      .have:=h2.1
       simpa[Act.put]using this
      .have:=h2.2 t ht
       have hne:d≠t:=λe=>ht (e▸hmem);simpa[Act.put,pJ hne]using this
   .intro j o _ hl
    exfalso;simp only[Fg,OK]at hl;split at hl<;>cases hl
  refine Go.wp_mono h1 λe a w' hq=>?_;cases e<;>simp only[Q']at hq<;>first|exact hq|exact hq.elim|skip
  obtain⟨hd,ha,he⟩:=hq;have:=hE a.tmps.toList _ w' ha he;have e:act a.tmps.toList ds=a:=by cases a;cases hd;rfl
  rwa[e]at this
structure B3 where
 normal:Fr->World->Prop
 exit:Nat->Fr->World->Prop
 ret:Fr->World->Prop
 panic:List PanicEntry->World->Prop
def written:Code->List Nat
 |.region _ ⟨ops⟩ _=>eR ops
 |.seq a b=>written a++written b
 |.cond _ a b=>written a++written b
 |.block _ c=>written c
 |.loop c=>written c
 |_=>[]
def Ai(l:Fr):List (Nat×Ty)->(List Value->Prop)->Prop
 |[],K=>K []
 |(t,_)::r,K=>sH l t λv=>Ai l r λvs=>K (v::vs)
def Aj:List (Nat×Ty)->List Value->Fr->(Fr->Prop)->Prop
 |(t,_)::r,v::vs,l,K=>wL l t v λl'=>Aj r vs l' K
 |_,_,l,K=>K l
def z_(us:Nat->Value):List Nat->Fr->(Fr->Prop)->Prop
 |[],l,K=>K l
 |t::r,l,K=>wL l t (us t) λl'=>z_ us r l' K
structure nQ where
 live:List (Nat×List (Nat×Ty)):=[]
 ja:List (Nat×Mh):=[]
 oz:List Nat:=[]
def MB(pl:nQ)(p:Nat)(A:Prop):Prop:=ak (pl.oz.any (Nat.beq p)) False A
def acd{pl:nQ}{p:Nat}{A:Prop}(h:MB pl p A):A:=by
 unfold MB at h;rw[aIs]at h;cases hc:pl.oz.any (Nat.beq p)with
 |true=>exact(h.1 hc).elim
 |false=>exact h.2 hc
def lookup{α:Type}:List (Nat×α)->Nat->Option α
 |[],_=>none
 |(k,v)::r,n=>bif Nat.beq k n then some v else lookup r n
def aIq:List (Nat×Ty)->List Ty
 |[]=>[]
 |(_,x)::r=>x::aIq r
def vc(P:Program)(pl:nQ):Code->Nat->B3->Fr->World->Prop
 |.skip,_,C,l,w=>C.normal l w
 |.region _ ⟨ops⟩ false,_,C,l,w=>uB P ops C.normal C.panic ops l w
 |.region id ⟨ops⟩ true,_,C,l,w=>match lookup pl.ja id with
  |some m=>drawn P m ops C.normal C.panic l w
  |none=>drawn P .still ops C.normal C.panic l w
 |.seq a b,p,C,l,w=>match lookup pl.live p with
  |none=>vc P pl a (2*p) {C with normal:=λl' w'=>vc P pl b (2*p+1) C l' w'} l w
  |some sp=>∃J:dZ (aIq sp) (World->Prop),
    vc P pl a (2*p) {C with normal:=λl' w'=>Ai l' sp λvs=>dZ.app (aIq sp) J vs λq=>q w'} l w/\
    aK_ (aIq sp) λvs=>∀(us:Nat->Value) (w':World),(dZ.app (aIq sp) J vs λq=>q w')->z_ us (written a) l λl1=>Aj sp vs l1 λl2=>vc P pl b (2*p+1) C l2 w'
 |.cond c a b,p,C,l,w=>cO l c λv=>match v with
  |.bool t=>ak t (MB pl (2*p) (vc P pl a (2*p) C l w)) (MB pl (2*p+1) (vc P pl b (2*p+1) C l w))
  |_=>False
 |.block id c,p,C,l,w=>vc P pl c (2*p) {C with exit:=λi l' w'=>ak (Nat.beq i id) (C.normal l' w') (C.exit i l' w')} l w
 |.loop c,p,C,l,w=>match lookup pl.live p with
  |none=>False
  |some sp=>∃(I:dZ (aIq sp) (World->Prop)) (m:dZ (aIq sp) (World->Nat)),
    (Ai l sp λvs=>dZ.app (aIq sp) I vs λq=>q w)/\
    aK_ (aIq sp) λvs=>∀(us:Nat->Value) (w':World),(dZ.app (aIq sp) I vs λq=>q w')->z_ us (written c) l λl1=>Aj sp vs l1 λl2=>
     vc P pl c (2*p) {C with normal:=λl3 w3=>Ai l3 sp λvs'=>(dZ.app (aIq sp) I vs' λq=>q w3)/\dZ.app (aIq sp) m vs' λm1=>dZ.app (aIq sp) m vs λm0=>m1 w3<m0 w'} l2 w'
 |.exit i,_,C,l,w=>C.exit i l w
 |.ret,_,C,l,w=>C.ret l w
 |_,_,_,_,_=>False
def D2(us:Nat->Value):List Nat->Fr->Fr
 |[],l=>l
 |t::r,l=>D2 us r (l.set t (us t))
def aqG{us:Nat->Value}{ws:List Nat}:∀{l:Fr} {K:Fr->Prop},z_ us ws l K->K (D2 us ws l):=by
 induction ws with
 |nil=>intro l K h;exact h
 |cons t r ih=>intro l K h;exact ih (Bz h)
def sets:List (Nat×Ty)->List Value->Fr->Fr
 |(t,_)::r,v::vs,l=>sets r vs (l.set t v)
 |_,_,l=>l
def abc{sp:List (Nat×Ty)}:∀{vs:List Value} {l:Fr} {K:Fr->Prop},Aj sp vs l K->K (sets sp vs l):=by
 induction sp with
 |nil=>intro vs l K h;exact h
 |cons x r ih=>intro vs l K h;cases vs with
  |nil=>exact h
  |cons v vs=>exact ih (Bz h)
def Reads(l:Fr):List (Nat×Ty)->List Value->Prop
 |[],[]=>True
 |(t,_)::r,v::vs=>l[t]?=some v/\Reads l r vs
 |_,_=>False
def DA{l:Fr}{sp:List (Nat×Ty)}:∀{K:List Value->Prop},Ai l sp K->∃vs,Reads l sp vs/\K vs:=by
 induction sp with
 |nil=>intro K h;exact⟨[],trivial,h⟩
 |cons x r ih=>intro K h;obtain⟨v,hv,h⟩:=xM h;obtain⟨vs,h1,h2⟩:=ih h;exact⟨v::vs,⟨hv,h1⟩,h2⟩
def asl{l:Fr}{sp:List (Nat×Ty)}:∀{vs:List Value},Reads l sp vs->sets sp vs l=l:=by
 induction sp with
 |nil=>intro vs h;cases vs<;>rfl
 |cons x r ih=>
  intro vs h;cases vs with
  |nil=>exact h.elim
  |cons v vs=>simp only[sets];rw[Gq h.1];exact ih h.2
def asm(us:Nat->Value)(ws:List Nat)(t:Nat):∀l:Fr,(D2 us ws l)[t]?=if t∈ws/\t<l.length then some (us t)else l[t]?:=by
 induction ws with
 |nil=>intro l;simp[D2]
 |cons x r ih=>
  intro l;simp only[D2,ih,Df,iQ]
  by_cases ht:t<l.length
  ·by_cases hx:x=t
   .subst hx
    by_cases hr:x∈r<;>simp[hr,ht]
   ·by_cases hr:t∈r
    .simp[hr,ht]
    .simp[hr,aKS hx,pJ hx]
  .simp[ht]
def atY{ws:List Nat}{l l':Fr}(h:cg ws l l'):D2 (λt=>l'.getD t undef) ws l=l':=by
 apply aJc;intro t;rw[asm]
 by_cases ht:t<l.length
 ·by_cases hw:t∈ws
  .have ht':t<l'.length:=by rw[h.1];exact ht
   simp[hw,ht,List.getD,gJ ht']
  .simp[hw,h.2 t hw]
 .have ht':¬t<l'.length:=by rw[h.1];exact ht
  simp[ht,th (J3 ht),th (J3 ht')]
def aIg.aK6{X:Type}{x:jc}{f:aIg x X}{v:Value}{K K':X->Prop}(h:aIg.app x f v K)(h':aIg.app x f v K'):aIg.app x f v λy=>K y/\K' y:=by
 cases x<;>cases v<;>simp only[aIg.app]at h h'⊢<;>first|exact h.elim|exact⟨h,h'⟩|skip
 rename_i k k' n;cases hd:decide (k=k')<;>simp[hd]at h h'⊢;exact⟨h,h'⟩
def gM.aK6{X:Type}{l:List jc}{f:gM l X}{vs:List Value}{K K':X->Prop}(h:gM.app l f vs K)(h':gM.app l f vs K'):gM.app l f vs λy=>K y/\K' y:=by
 induction l generalizing vs with
 |nil=>cases vs with
  |nil=>exact⟨h,h'⟩
  |cons v vs=>exact h.elim
 |cons x r ih=>cases vs with
  |nil=>exact h.elim
  |cons v vs=>exact aIg.zQ (aIg.aK6 h h') λg hg=>ih hg.1 hg.2
def iE.aK6{X:Type}{x:Ty}{f:iE x X}{v:Value}{K K':X->Prop}(h:iE.app x f v K)(h':iE.app x f v K'):iE.app x f v λy=>K y/\K' y:=by
 cases x with
 |leaf x=>exact aIg.aK6 h h'
 |agg l=>cases v<;>first|exact h.elim|exact gM.aK6 h h'
 |eZ n=>cases v<;>first|exact h.elim|exact⟨h.1,h.2,h'.2⟩
def dZ.aK6{X:Type}{l:List Ty}{f:dZ l X}{vs:List Value}{K K':X->Prop}(h:dZ.app l f vs K)(h':dZ.app l f vs K'):∃y,K y/\K' y:=by
 induction l generalizing vs with
 |nil=>cases vs with
  |nil=>exact⟨_,h,h'⟩
  |cons v vs=>exact h.elim
 |cons x r ih=>cases vs with
  |nil=>exact h.elim
  |cons v vs=>obtain⟨g,Cn,hg2⟩:=iE.By (iE.aK6 h h');exact ih Cn hg2
def asn{l:Fr}{sp:List (Nat×Ty)}:∀{vs vs':List Value},Reads l sp vs->Reads l sp vs'->vs=vs':=by
 induction sp with
 |nil=>intro vs vs' h h';cases vs<;>cases vs'<;>first|rfl|exact h.elim|exact h'.elim
 |cons x r ih=>
  intro vs vs' h h';cases vs with
  |nil=>exact h.elim
  |cons v vs=>cases vs' with
   |nil=>exact h'.elim
   |cons v' vs'=>have:=h.1.symm.trans h'.1;obtain rfl:=bM this;rw[ih h.2 h'.2]
def aIg.zY{X:Type}{x:jc}{f:aIg x X}{v:Value}{K:X->Prop}(h:aIg.app x f v K):∃y,K y/\∀K':X->Prop,K' y->aIg.app x f v K':=by
 cases x<;>cases v<;>simp only[aIg.app]at h⊢<;>first|exact h.elim|exact⟨_,h,λ_ h'=>h'⟩|skip
 rename_i k k' n;cases hd:decide (k=k')<;>simp only[hd,ar_,aqu]at h⊢;exact⟨_,h,λ_ h'=>h'⟩
def gM.zY{X:Type}{l:List jc}{f:gM l X}{vs:List Value}{K:X->Prop}(h:gM.app l f vs K):∃y,K y/\∀K':X->Prop,K' y->gM.app l f vs K':=by
 induction l generalizing vs with
 |nil=>cases vs with
  |nil=>exact⟨_,h,λ_ h'=>h'⟩
  |cons v vs=>exact h.elim
 |cons x r ih=>cases vs with
  |nil=>exact h.elim
  |cons v vs=>obtain⟨g,hg,hall⟩:=aIg.zY h;obtain⟨y,hy,TY⟩:=ih hg;exact⟨y,hy,λK' hk=>hall _ (TY K' hk)⟩
def iE.zY{X:Type}{x:Ty}{f:iE x X}{v:Value}{K:X->Prop}(h:iE.app x f v K):∃y,K y/\∀K':X->Prop,K' y->iE.app x f v K':=by
 cases x with
 |leaf x=>exact aIg.zY h
 |agg l=>cases v<;>first|exact h.elim|exact gM.zY h
 |eZ n=>cases v<;>first|exact h.elim|exact⟨_,h.2,λ_ h'=>⟨h.1,h'⟩⟩
def dZ.zY{X:Type}{l:List Ty}{f:dZ l X}{vs:List Value}{K:X->Prop}(h:dZ.app l f vs K):∃y,K y/\∀K':X->Prop,K' y->dZ.app l f vs K':=by
 induction l generalizing vs with
 |nil=>cases vs with
  |nil=>exact⟨_,h,λ_ h'=>h'⟩
  |cons v vs=>exact h.elim
 |cons x r ih=>cases vs with
  |nil=>exact h.elim
  |cons v vs=>obtain⟨g,hg,hall⟩:=iE.zY h;obtain⟨y,hy,TY⟩:=ih hg;exact⟨y,hy,λK' hk=>hall _ (TY K' hk)⟩
def aec(sp:List (Nat×Ty))(m:dZ (aIq sp) (World->Nat))(a:Act)(w:World)(n:Nat):Prop:=
 ∃vs,Reads a.tmps.toList sp vs/\dZ.app (aIq sp) m vs λz=>z w=n
open Classical in
noncomputable def MC(sp:List (Nat×Ty))(m:dZ (aIq sp) (World->Nat))(a:Act)(w:World):Nat:=
 if h:∃n,aec sp m a w n then Classical.choose h else 0
def Lv{sp:List (Nat×Ty)}{m:dZ (aIq sp) (World->Nat)}{a:Act}{w:World}{vs:List Value}{K:(World->Nat)->Prop}(hr:Reads a.tmps.toList sp vs)(h:dZ.app (aIq sp) m vs K):
  ∃y,K y/\MC sp m a w=y w:=by
 obtain⟨y,hy,hall⟩:=dZ.zY h;refine⟨y,hy,?_⟩;have hex:∃n,aec sp m a w n:=⟨y w,vs,hr,hall _ rfl⟩;unfold MC;rw[dif_pos hex];obtain⟨vs',hr',h'⟩:=Classical.choose_spec hex;rw[asn hr' hr]at h';obtain⟨z,h1,h2⟩:=dZ.aK6 h' (hall (λz=>z=y) rfl);rw[<-h1,h2]
def F_{ws:List Nat}{l l':Fr}{sp:List (Nat×Ty)}{vs:List Value}{K:Fr->Prop}(ha:cg ws l l')(hr:Reads l' sp vs)
  (h:∀us:Nat->Value,z_ us ws l λl1=>Aj sp vs l1 K):K l':=by
 have h1:=abc (aqG (h λt=>l'.getD t undef));rw[atY ha,asl hr]at h1;exact h1
def aIM{P:Program}{pl:nQ}{ds:List Deferred}:∀(c:Code) (p:Nat) (C:B3) (l:Fr) (w:World) (Q:Exit->Act->World->Prop),vc P pl c p C l w->
  (∀l' w',cg (written c) l l'->C.normal l' w'->Q .normal (act l' ds) w')->(∀i l' w',cg (written c) l l'->C.exit i l' w'->Q (.exit i) (act l' ds) w')->
  (∀l' w',C.ret l' w'->Q .ret (act l' ds) w')->(∀l' ch w',cg (written c) l l'->C.panic ch w'->Q (.panic ch) (act l' ds) w')->c.wp P Q (act l ds) w
 |.skip,p,C,l,w,Q,h,hn,_,_,_=>wp_skip (hn l w (cg.refl _ _) h)
 |.region id ⟨ops⟩ false,p,C,l,w,Q,h,hn,_,_,hp=>wp_region_list (ZD hp h λl' w' ha hk=>hn l' w' ha hk)
 |.region id ⟨ops⟩ true,p,C,l,w,Q,h,hn,_,_,hp=>by
  simp only[vc]at h;split at h
  .exact F7 h (λl' w' ha hk=>hn l' w' ha hk) hp
  .exact F7 h (λl' w' ha hk=>hn l' w' ha hk) hp
 |.seq a b,p,C,l,w,Q,h,hn,he,hr,hp=>by
  simp only[vc]at h;have left:∀{l':Fr},cg (written a) l l'->cg (written (.seq a b)) l l':=λha=>ha.mono λt ht=>aJx _ ht;have both:∀{l' l2:Fr},cg (written a) l l'->cg (written b) l' l2->cg (written (.seq a b)) l l2:=λha hb=>ha.trans hb (λt ht=>aJx _ ht) (λt ht=>tj _ ht);refine wp_seq ?_;split at h
  .refine aIM a (2*p) _ l w _ h (λl' w' ha hk=>?_) (λi l' w' ha hk=>he i l' w' (left ha) hk) (λl' w' hk=>hr l' w' hk) (λl' ch w' ha hk=>hp l' ch w' (left ha) hk)
   exact aIM b (2*p+1) C l' w' Q hk (λl2 w2 hb hk=>hn l2 w2 (both ha hb) hk) (λi l2 w2 hb hk=>he i l2 w2 (both ha hb) hk) hr (λl2 ch w2 hb hk=>hp l2 ch w2 (both ha hb) hk)
  .rename_i sp _
   obtain⟨J,h1,h2⟩:=h;refine aIM a (2*p) _ l w _ h1 (λl' w' ha hk=>?_) (λi l' w' ha hk=>he i l' w' (left ha) hk) (λl' w' hk=>hr l' w' hk) (λl' ch w' ha hk=>hp l' ch w' (left ha) hk);obtain⟨vs,hrd,hj⟩:=DA hk;have h3:=dZ.tU hj h2;have h4:=F_ ha hrd λus=>h3 us w' hj;exact aIM b (2*p+1) C l' w' Q h4 (λl2 w2 hb hk=>hn l2 w2 (both ha hb) hk) (λi l2 w2 hb hk=>he i l2 w2 (both ha hb) hk) hr (λl2 ch w2 hb hk=>hp l2 ch w2 (both ha hb) hk)
 |.cond c a b,p,C,l,w,Q,h,hn,he,hr,hp=>by
  simp only[vc]at h;have h:=cL (ds:=ds) h;split at h
  .rename_i v t hv
   rw[aIs]at h;refine wp_cond_split hv (λht=>?_) (λhf=>?_)
   .exact aIM a (2*p) C l w Q (acd (h.1 ht)) (λl' w' ha hk=>hn l' w' (ha.mono λt ht=>aJx _ ht) hk) (λi l' w' ha hk=>he i l' w' (ha.mono λt ht=>aJx _ ht) hk) hr (λl' ch w' ha hk=>hp l' ch w' (ha.mono λt ht=>aJx _ ht) hk)
   .exact aIM b (2*p+1) C l w Q (acd (h.2 hf)) (λl' w' ha hk=>hn l' w' (ha.mono λt ht=>tj _ ht) hk) (λi l' w' ha hk=>he i l' w' (ha.mono λt ht=>tj _ ht) hk) hr (λl' ch w' ha hk=>hp l' ch w' (ha.mono λt ht=>tj _ ht) hk)
  .exact h.elim
 |.block id c,p,C,l,w,Q,h,hn,he,hr,hp=>by
  simp only[vc]at h;refine wp_block (aIM c (2*p) _ l w _ h (λl' w' ha hk=>hn l' w' ha hk) (λi l' w' ha hk=>?_) (λl' w' hk=>hr l' w' hk) (λl' ch w' ha hk=>hp l' ch w' ha hk))
  replace hk:ak (Nat.beq i id) (C.normal l' w') (C.exit i l' w'):=hk
  rw[aIs]at hk;simp only[Exit.inBlock]
  by_cases hi:i=id
  .rw[aR hi]
   exact hn l' w' ha (hk.1 (by rw[hi];exact Nat.beq_refl id))
  .rw[aL hi]
   refine he i l' w' ha (hk.2 ?_);cases hb:Nat.beq i id with
   |false=>rfl
   |true=>exact(hi (aIT hb)).elim
 |.loop c,p,C,l,w,Q,h,hn,he,hr,hp=>by
  simp only[vc]at h;split at h
  .exact h.elim
  .rename_i sp _
   obtain⟨I,m,h0,h1⟩:=h;refine wp_loop (λa w'=>∃l' vs,a=act l' ds/\cg (written c) l l'/\Reads l' sp vs/\dZ.app (aIq sp) I vs λq=>q w') (MC sp m) ?_ ?_
   .obtain⟨vs,hrd,hi⟩:=DA h0
    exact⟨l,vs,rfl,cg.refl _ _,hrd,hi⟩
   .rintro a w' ⟨l',vs,rfl,ha,hrd,hi⟩
    have h3:=dZ.tU hi h1;have h4:=F_ ha hrd λus=>h3 us w' hi;refine aIM c (2*p) _ l' w' _ h4 (λl2 w2 hb hk=>?_) (λi l2 w2 hb hk=>he i l2 w2 (ha.trans hb (λ_ h=>h) (λ_ h=>h)) hk) (λl2 w2 hk=>hr l2 w2 hk) (λl2 ch w2 hb hk=>hp l2 ch w2 (ha.trans hb (λ_ h=>h) (λ_ h=>h)) hk);obtain⟨vs',H7,hi',hm⟩:=DA hk;refine⟨⟨l2,vs',rfl,ha.trans hb (λ_ h=>h) (λ_ h=>h),H7,hi'⟩,?_⟩;obtain⟨m1,aId,e1⟩:=Lv (a:=act l2 ds) (w:=w2) H7 hm;obtain⟨m0,hm0,e0⟩:=Lv (a:=act l' ds) (w:=w') hrd aId;rw[e1,e0];exact hm0
 |.exit i,p,C,l,w,Q,h,_,he,_,_=>wp_exit (he i l w (cg.refl _ _) h)
 |.ret,p,C,l,w,Q,h,_,_,hr,_=>wp_ret (hr l w h)
 |.label _,_,_,_,_,_,h,_,_,_,_=>h.elim
 |.goto _,_,_,_,_,_,h,_,_,_,_=>h.elim
 |.scope _,_,_,_,_,_,h,_,_,_,_=>h.elim
 |.rangeFunc ..,_,_,_,_,_,h,_,_,_,_=>h.elim
 |.refuse _,_,_,_,_,_,h,_,_,_,_=>h.elim
def rG(P:Program)(w:World):List ResultVar->Fr->(List Value->Prop)->Prop
 |[],_,K=>K []
 |.tmp t::r,l,K=>sH l t λv=>rG P w r l λvs=>K (v::vs)
 |.cell a t::r,l,K=>sH l a λv=>yg v λa=>Mb P t a (λa v=>w.cell? a=some v) λv=>rG P w r l λvs=>K (v::vs)
def wN:List Value->Value
 |[v]=>v
 |vs=>.tuple ⟨vs⟩
def kS(P:Program)(rs:List ResultVar)(R:Ending->World->Prop):B3 where
 normal:=λl w=>rG P w rs l λvs=>R (.returned (wN vs)) w
 exit:=λ_ _ _=>False
 ret:=λl w=>rG P w rs l λvs=>R (.returned (wN vs)) w
 panic:=λc w=>R (.panicked c) w
def yl(tmps:Array Value):ResultVar->Sem Value
 |.tmp t=>pure (tmps.getD t undef)
 |.cell a t=>do loadVar t (<-asAddr (tmps.getD a undef))
def atZ{P:Program}{w:World}{l:Fr}{ds:List Deferred}{rs:List ResultVar}:∀{K:List Value->Prop},rG P w rs l K->
  ∃vs,(rs.mapM (yl (act l ds).tmps)).run P w=.ok vs w/\K vs:=by
 induction rs with
 |nil=>intro K h;exact⟨[],rfl,h⟩
 |cons r rs ih=>
  intro K h;cases r with
  |tmp t=>
   obtain⟨v,hv,h⟩:=xM h;obtain⟨vs,h1,h2⟩:=ih h;refine⟨v::vs,?_,h2⟩;have hg:(act l ds).tmps.getD t undef=v:=by simp[act,hv]
   simp only[aKt,Sem.run_bind,yl,hg,Sem.run_pure,Result.andThen_ok,h1]
  |cell a t=>
   obtain⟨v,hv,h⟩:=xM h;obtain⟨ad,rfl,h3⟩:=BA h;obtain⟨u,h4,hl⟩:=aa5 h3;obtain⟨vs,h1,h2⟩:=ih h4;refine⟨u::vs,?_,h2⟩;have hg:(act l ds).tmps.getD a undef=.pointer (some ad):=by simp[act,hv]
   simp only[aKt,Sem.run_bind,yl,hg,asAddr,Sem.run_pure,Result.andThen_ok,hl w (λ_ _ h=>h),h1]
def oU{P:Program}{fn:Func}{w:World}{l:Fr}{ds:List Deferred}{K:List Value->Prop}(h:rG P w fn.results.toList l K):
  ∃vs,(results fn (act l ds).tmps).run P w=.ok (wN vs) w/\K vs:=by
 obtain⟨vs,h1,h2⟩:=atZ (ds:=ds) h;refine⟨vs,?_,h2⟩;have e:results fn (act l ds).tmps=(do
   let vs<-fn.results.mapM (yl (act l ds).tmps)
   pure (if h:vs.size=1 then vs[0]else .tuple vs)):=by
  unfold results;congr 2
 rw[e,Sem.run_bind,Jy];simp only[Sem.run_map,h1,Result.andThen_ok,Sem.run_pure]
 match vs with
 |[]=>rfl
 |[v]=>rfl
 |v::u::r=>simp[wN]
def aIP(n:Nat):List Value->Fr
 |[]=>List.replicate n undef
 |v::r=>v::aIP (n-1) r
def Bv(args:List Value):∀n,aIP n args=args++List.replicate (n-args.length) undef:=by
 induction args with
 |nil=>intro n;simp[aIP]
 |cons v r ih=>intro n;simp only[aIP,ih,FB,bf];congr 3;omega
def pN{P:Program}{f:FuncId}{fn:Func}{c:Code}{args:List Value}{w:World}{R:Ending->World->Prop}(pl:nQ)(hf:P.funcs[f]?=some fn)(hb:fn.body=some c)
  (h:vc P pl c 1 (kS P fn.results.toList R) (aIP fn.ntmps args) w):Calls P f ⟨args⟩ w R:=by
 refine calls_of_wp hf hb ?_;have e:(Array.mk args)++Array.replicate (fn.ntmps-(Array.mk args).size) undef=⟨aIP fn.ntmps args⟩:=by apply jL;simp[Bv]
 rw[e];refine aIM (ds:=[]) c 1 _ _ w _ h (λl' w' _ hk=>?_) (λi l' w' _ hk=>hk.elim) (λl' w' hk=>?_) (λl' ch w' _ hk=>⟨rfl,hk⟩)
 .obtain⟨vs,h1,h2⟩:=oU (ds:=[]) hk
  exact⟨rfl,_,h1,h2⟩
 .obtain⟨vs,h1,h2⟩:=oU (ds:=[]) hk
  exact⟨rfl,_,h1,h2⟩
end Go.Proofs.YtihaaoehhgmphaaGreatDoor.Vc
namespace Go.Proofs.YtihaaoehhgmphaaGreatDoor
open IntKind Go.RowKit Vc
def wrap_i64{n:Int}(h0: -9223372036854775808<=n)(h1:n<9223372036854775808):i64.wrap n=n:=by simp only[IntKind.wrap,IntKind.signed,IntKind.bits];simp;omega
def wrap_u64{n:Int}(h0:0<=n)(h1:n<18446744073709551616):u64.wrap n=n:=by simp only[IntKind.wrap,IntKind.signed,IntKind.bits];simp;omega
def bit(m:Int)(i:Nat):Bool:=m.toNat.testBit i
def bR(g o i:Nat):(Addr.mk g o none).add i=⟨g,o+i,none⟩:=by
 unfold Addr.add;split;·next h=>subst h;rfl
 ·rfl
def Row.wr{w:World}{g:Nat}{t:TypeId}{cs:Array Value}(h:Row w g t cs)(i:Nat)(hi:i<cs.size):Wr w ⟨g,i,none⟩:=
 ⟨by rw[h.cell];simp[hi],h.frozen hi⟩
def Row.gZ{w:World}{g:Nat}{t:TypeId}{l:List Value}(h:Row w g t ⟨l⟩)(i:Nat)(u:Value):Row (w.setCell ⟨g,i,none⟩ u) g t ⟨l.set i u⟩:=by
 have:=h.set i u;have e:(Array.mk l).setIfInBounds i u=⟨l.set i u⟩:=by apply jL;simp
 rwa[e]at this
def BO(F:Nat->UInt8)(N:Nat):List Value:=(List.range N).map λi=>.int .u8 (F i).toNat
def ym(F:Nat->UInt8)(o N:Nat):List UInt8:=(List.range N).map λj=>F (o+j)
@[simp]theorem aF_(F:Nat->UInt8)(N:Nat):(BO F N).length=N:=by simp[BO]
@[simp]theorem aGb(F:Nat->UInt8)(o N:Nat):(ym F o N).length=N:=by simp[ym]
def aaa{F:Nat->UInt8}{N i:Nat}(h:i<N):(BO F N)[i]?=some (.int .u8 (F i).toNat):=by simp[BO,h]
def at0{F:Nat->UInt8}{o N i:Nat}(h:i<N):(ym F o N)[i]?=some (F (o+i)):=by simp[ym,h]
def aqH{w:World}{g:Nat}{t:TypeId}{F:Nat->UInt8}{N:Nat}(h:Row w g t ⟨BO F N⟩){o M:Nat}(hM:o+M<=N):
  aKj (λa v=>w.cell? a=some v) (some ⟨g,o,none⟩) M (ym F o M):=by
 refine⟨by simp,λ_=>⟨_,rfl,λj b hb=>?_⟩⟩;have hj:j<M:=by have:=(jj.1 hb).1;simpa using this
 rw[at0 hj]at hb;obtain rfl:=bM hb;rw[bR];exact h.dY (by simpa using aaa (by omega))
def bc(l:List UInt8):List Value:=l.map λb=>.int .u8 b.toNat
@[simp]theorem Gh(l:List UInt8):(bc l).length=l.length:=by simp[bc]
def aed(l:List UInt8)(i:Nat)(b:UInt8):(bc l).set i (.int .u8 (b.toNat:Int))=bc (l.set i b):=by simp[bc,Qw]
def DB(l m:List UInt8):bc (l++m)=bc l++bc m:=by simp[bc]
def DS{l:List UInt8}{i:Nat}{b:UInt8}(h:l[i]?=some b):(bc l)[i]?=some (.int .u8 (b.toNat:Int)):=by simp[bc,h]
def Tv(l:List UInt8):∀v∈bc l,v.oneCell'=true:=by intro v hv;simp only[bc,eo]at hv;obtain⟨x,_,rfl⟩:=hv;rfl
def Row.bytes{w:World}{g:Nat}{t:TypeId}{l:List UInt8}(h:Row w g t ⟨bc l⟩){n:Nat}(hn:l.length=n):aKj (λa v=>w.cell? a=some v) (some ⟨g,0,none⟩) n l:=by refine⟨hn,λ_=>⟨_,rfl,λj b hb=>?_⟩⟩;rw[bR,cE];exact h.dY (by simpa using DS hb)
def aV.wz{w:World}{B:Nat}{e:TypeId}{size:Nat}{v:Value}{n:Nat}{xs:List Value}(h:aV w B e size v n xs)(hn:0<n):∃g cap,v=.slice (some ⟨g,0,none⟩) n cap/\B<=g/\g<w.heap.size/\n<=cap/\∀j u,xs[j]?=some u->w.cell? ⟨g,j,none⟩=some u:=by obtain⟨g,cap,cur,rfl,hb,hr,hc,_,_⟩:=h.row hn;exact⟨g,cap,rfl,hb,hr.lt,hc,h.cells rfl⟩
def aV.bytes{w:World}{B:Nat}{e:TypeId}{p:Option Addr}{n c:Nat}{l:List UInt8}(h:aV w B e 1 (.slice p n c) n (bc l)):aKj (λa v=>w.cell? a=some v) p n l:=by have hl:=h.length;rw[Gh]at hl;refine⟨by omega,λhn=>?_⟩;obtain⟨g,cap,he,_,_,_,hx⟩:=h.wz hn;injection he with e1 e2 e3;subst e1;refine⟨_,rfl,λj b hb=>?_⟩;rw[bR,cE];exact hx j _ (DS hb)
def one_one{x:Value}(h:x.oneCell'=true):∀u∈[x],u.oneCell'=true:=by simpa using h
def avz(w:World)(t:TypeId)(x:Value):0<1->∃a:Addr,(some (Addr.mk w.heap.size 0 none))=some a/\∀(j:Nat) (u:Value),[x][j]?=some u->(w.alloc (.cells #[x] t)).cell? (a.add j)=some u:=by
 refine λ_=>⟨_,rfl,λj u hu=>?_⟩;have hj:j=0:=by have:=(jj.1 hu).1;simpa using this
 subst hj;obtain rfl:=bM hu;exact(Row.new w t _).dY rfl
section
variable{w w2 w7:World}{B L L':Nat}{e:TypeId}{v v':Value}{xs ys:List Value}{size:Nat}{row:Option Nat}
def aV.aJr{p p':Option Addr}{n n' c c':Nat}(ho:aV w2 B e size (.slice p n c) L xs)(hB:B<=w2.heap.size){o:Obj}(Cp:aV w7 0 e size (.slice p' n' c') L' ys)
  (hblk:aI4 p p' n' c c' (w2.alloc o).heap.size):aV w7 B e size (.slice p' n' c') L' ys:=by
 refine Cp.base λk hk=>?_;rcases hblk.own (n:=n)with h|h
 .exact(ho.lt k (by rw[<-h,hk])).1
 .rw[hk]at h
  obtain rfl:=bM h;simp;omega
def Mod.aJr{S:Nat->Prop}(hm:Mod S w w2)(ho:aV w2 B e size v L xs)(hwB:w.heap.size<=B){o:Obj}(hg:(w2.alloc o).grownBy w7 v.ownBlock):Mod S w w7:=
 (hm.alloc o).grown hg λg hk=>.inr (lH hwB (ho.lt g hk).1)
def Row.aJr{g:Nat}{t:TypeId}{cs:Array Value}(h:Row w2 g t cs)(ho:aV w2 B e size v L xs)(hgB:g<B){o:Obj}(hg:(w2.alloc o).grownBy w7 v.ownBlock):Row w7 g t cs:=
 (h.alloc o).grown hg λhk=>by have:=(ho.lt g hk.symm).1;omega
end
end Go.Proofs.YtihaaoehhgmphaaGreatDoor
namespace Go.Proofs.YtihaaoehhgmphaaGreatDoor
open IntKind
abbrev ag:=List UInt8
end Go.Proofs.YtihaaoehhgmphaaGreatDoor
