/- Texts of one proof, one behind the other. Conditions: as each theorem names them. -/
import Derived.Test.YtcoeiiihmpnagaaDoorSyNode
namespace Go.Proofs.YtcoeiiihmpnagaaDoor
open Go.RowKit Vc
variable {w : World}

theorem NB.more {w0 w' : World} {g gn B : Nat} {X Y : Nat → Prop} {x : Nd} {vw va vr vo vk : Value} (h : NB w0 w g gn B X x vw va vr vo vk) (hm : Still w w') (hXY : ∀ k, X k → Y k) (hYX : ∀ k, Y k → X k ∨ (w.heap.size ≤ k ∧ k < w'.heap.size)) : NB w0 w' g gn B Y x vw va vr vo vk := by
  have hz := hm.size
  have hl := h.row.lt
  have hgn := h.hgn
  have hv : ∀ k, Y k → X k ∨ w.heap.size ≤ k := fun k hk => (hYX k hk).imp_right And.left
  refine ⟨h.row.still hm, h.only.tr hm.only, h.hg, h.hB, h.hgn, fun k hk => ?_, hXY _ h.xg, ?_, ?_, ?_, ?_, ?_⟩
  · rcases hYX k hk with hk | hk
    · exact ⟨Nat.lt_of_lt_of_le (h.xs k hk).1 hz, (h.xs k hk).2⟩
    · exact ⟨hk.2, by omega⟩
  · exact h.ow.mod hm (fun _ _ _ h => h.elim) hXY hv
  · exact h.oa.mod hm (fun _ _ _ h => h.elim) hXY hv
  · exact h.ord.mod hm (fun _ _ _ h => h.elim) hXY hv
  · exact h.oo.mod hm (fun _ _ _ h => h.elim) hXY hv
  · exact h.ok.mod hm (fun _ _ _ h => h.elim) hXY hv
abbrev Nd.setK (x : Nd) (y : Nd) : Nd := .mk x.k x.neg x.nm x.ws x.as x.rs x.os [y]
abbrev Nd.setO (x : Nd) (y : Txt) : Nd := .mk x.k x.neg x.nm x.ws x.as x.rs [y] x.ks
/-- One kid, in a row of its own. -/
theorem setK_spec {w0 w1 : World} {g gn B : Nat} {X : Nat → Prop} {x y : Nd} {vw va vr vo vk : Value} {cs : List Value} (nb : NB w0 w1 g gn B X x vw va vr vo vk) (o : Only g w1 w) (hn : NdE w (fun k => w1.heap.size ≤ k ∧ k < w.heap.size) y cs) {K : World → Prop}
    (hK : ∀ vk' w' X', NB w0 w' g gn B X' (x.setK y) vw va vr vo vk' → Mod (fun k => B ≤ k) w w' → K w') :
    letW (w.alloc (.cells ⟨cs⟩ 32)) (fun w2 => stCells (Addr.mk gn 7 none) K 0 [.slice (some (Addr.mk w.heap.size 0 none)) 1 1] w2) := by
  have nb1 := nb.on o
  have hl := nb.row.lt
  have hl1 := nb1.row.lt
  have hB := nb.hB
  have hgn := nb.hgn
  have hzo := o.size
  refine allocK fun w2 r2 s2 z2 => ?_
  have nb2 := nb1.more (Y := fun k => X k ∨ k = w.heap.size) s2 (fun k hk => .inl hk) (fun k hk => hk.imp_right fun e => by omega)
  refine stK nb2.row (by simp) (by simp [Value.oneCell']) fun w3 r3 m3 z3 => hK _ w3 _ (nb2.put m3 (y := x.setK y) r3 (.inr ⟨rfl, rfl⟩) ⟨rfl, rfl⟩ ⟨rfl, rfl⟩ (.inr ⟨rfl, rfl⟩) (.inl ?_)) (Mod.trans s2 m3 (fun _ h => h.elim) (fun k _ e => by omega))
  have hn3 := (hn.still s2).mod m3 (fun k hk e => by omega)
  refine Enc.OutX.row (l := [y]) (r2.mod m3 (by omega)) (by omega) (by omega) (.inr rfl) (show 1 ≤ 1000000 by decide) (Enc.Cs.single (hn3.mono fun k hk => ⟨by omega, by omega, fun hx => ?_⟩))
  rcases hx with hx | hx
  · have := (nb.xs k hx).1
    omega
  · omega
/-- One operator, in a row of its own. -/
theorem setO_spec {w0 : World} {g gn B : Nat} {X : Nat → Prop} {x : Nd} {y : Txt} {vw va vr vo vk : Value} (nb : NB w0 w g gn B X x vw va vr vo vk) {K : World → Prop}
    (hK : ∀ vo' w' X', NB w0 w' g gn B X' (x.setO y) vw va vr vo' vk → Mod (fun k => B ≤ k) w w' → K w') :
    letW (w.alloc (.cells ⟨[.string (S y)]⟩ 9)) (fun w2 => stCells (Addr.mk gn 6 none) K 0 [.slice (some (Addr.mk w.heap.size 0 none)) 1 1] w2) := by
  have hl := nb.row.lt
  have hB := nb.hB
  have hgn := nb.hgn
  refine allocK fun w2 r2 s2 z2 => ?_
  have nb2 := nb.more (Y := fun k => X k ∨ k = w.heap.size) s2 (fun k hk => .inl hk) (fun k hk => hk.imp_right fun e => by omega)
  refine stK nb2.row (by simp) (by simp [Value.oneCell']) fun w3 r3 m3 z3 => hK _ w3 _ (nb2.put m3 (y := x.setO y) r3 (.inr ⟨rfl, rfl⟩) ⟨rfl, rfl⟩ ⟨rfl, rfl⟩ (.inl ?_) (.inr ⟨rfl, rfl⟩)) (Mod.trans s2 m3 (fun _ h => h.elim) (fun k _ e => by omega))
  exact Enc.OutX.row (l := [y]) (r2.mod m3 (by omega)) (by omega) (by omega) (.inr rfl) (show 1 ≤ 1000000 by decide) (Enc.Cs.single rfl)
/-- A box, and a row of its words. -/
theorem NB.mkW {w0 : World} {g gn B : Nat} {x : Nd} {y : List Pt} {b : Nat} {v : Value} (hr : Row w gn 32 ⟨ncell x (.slice (some ⟨b, 0, none⟩) 1 1) (.slice none 0 0) (.slice none 0 0) (.slice none 0 0) (.slice none 0 0)⟩) (hb : Row w b 49 ⟨[v]⟩) (hc : SlAt w (fun k => B ≤ k ∧ k < w.heap.size ∧ k ≠ gn ∧ k ≠ b) y v) (ho : Only g w0 w) (hg : g < w0.heap.size) (hB : w0.heap.size ≤ B) (hgn : B ≤ gn) (hbB : B ≤ b) (hne : b ≠ gn) (hx : x.ws = [y] ∧ x.as = [] ∧ x.rs = [] ∧ x.os = [] ∧ x.ks = []) :
    NB w0 w g gn B (fun k => k = gn ∨ k = b) x (.slice (some ⟨b, 0, none⟩) 1 1) (.slice none 0 0) (.slice none 0 0) (.slice none 0 0) (.slice none 0 0) := by
  obtain ⟨h1, h2, h3, h4, h5⟩ := hx
  refine ⟨hr, ho, hg, hB, hgn, fun k hk => ?_, .inl rfl, ?_, ?_, ?_, ?_, ?_⟩
  · rcases hk with rfl | rfl
    · exact ⟨hr.lt, hgn⟩
    · exact ⟨hb.lt, hbB⟩
  · rw [h1]
    exact Enc.OutX.row (l := [y]) hb hbB hne (.inr rfl) (show 1 ≤ 1000000 by decide) (Enc.Cs.single ⟨v, rfl, hc.turn (fun k hk => ⟨hk.1, hk.2.1, fun h => h.elim hk.2.2.1 hk.2.2.2⟩) (fun _ _ _ h => h)⟩)
  · rw [h2]; exact Enc.OutX.nil _ _ _ _ _ _
  · rw [h3]; exact Enc.OutX.nil _ _ _ _ _ _
  · rw [h4]; exact Enc.OutX.nil _ _ _ _ _ _
  · rw [h5]; exact Enc.OutX.nil _ _ _ _ _ _
def firstK (f : FuncId) (args : Array Value) (kd : Int) (w2 : World) (K : World → World → Prop) (R : Ending → World → Prop) : Prop :=
  Calls Tryd.prog f args w2 (fun ed w3 => (∃ rKind : Int, ∃ rNot : Bool, ∃ rName : List UInt8, ∃ (rWords : Option Addr) (rWordsL rWordsC : Nat), ∃ (rAssigns : Option Addr) (rAssignsL rAssignsC : Nat), ∃ (rRedirs : Option Addr) (rRedirsL rRedirsC : Nat), ∃ (rOps : Option Addr) (rOpsL rOpsC : Nat), ∃ (rKids : Option Addr) (rKidsL rKidsC : Nat), ed = .returned (.agg #[(.int .i64 rKind), (.bool rNot), (.string (S rName)), (.slice rWords rWordsL rWordsC), (.slice rAssigns rAssignsL rAssignsC), (.slice rRedirs rRedirsL rRedirsC), (.slice rOps rOpsL rOpsC), (.slice rKids rKidsL rKidsC)]) ∧ letW (w3.alloc (.cells #[(.int .i64 rKind), (.bool rNot), (.string (S rName)), (.slice rWords rWordsL rWordsC), (.slice rAssigns rAssignsL rAssignsC), (.slice rRedirs rRedirsL rRedirsC), (.slice rOps rOpsL rOpsC), (.slice rKids rKidsL rKidsC)] 32)) (fun (w4 : World) => letW (w4.alloc (.cells #[(.int .i64 0), (.bool false), (.string (S ([] : List UInt8))), (.slice none 0 0), (.slice none 0 0), (.slice none 0 0), (.slice none 0 0), (.slice none 0 0)] 32)) (fun (w5 : World) => stCells (Addr.mk w4.heap.size 0 none) (fun w6 => K w4 w6) 0 [(.int .i64 kd), (.bool false), (.string (S ([] : List UInt8))), (.slice none 0 0), (.slice none 0 0), (.slice none 0 0), (.slice none 0 0), (.slice (some (Addr.mk w3.heap.size 0 none)) 1 1)] w5))) ∨ (∃ ch, ed = .panicked ch ∧ R (.panicked ch) w3))
theorem firstK_spec {w2 : World} {g : Nat} {kd : Int} {f : FuncId} {args : Array Value} {r : Rs (Nd × Ts)} (hres : Row w2 w.heap.size 32 ⟨zcell⟩) (o2 : Only g w w2) (hg : g < w.heap.size) (hcall : Calls Tryd.prog f args w2 (SyP w2 g r)) {K : World → World → Prop} {R : Ending → World → Prop}
    (hbad : ∀ k w', r = .bad k → Only g w w' → R (.panicked (errP k)) w') (hok : ∀ y w4 w6 vk X, r = .ok y → NB w w6 g w4.heap.size (w.heap.size + 1) X (.mk kd false [] [] [] [] [] [y.1]) (.slice none 0 0) (.slice none 0 0) (.slice none 0 0) (.slice none 0 0) vk → Row w6 w.heap.size 32 ⟨zcell⟩ → Pz w6 g y.2 → K w4 w6) : firstK f args kd w2 K R := by
  have hl := hres.lt
  refine hcall.mono ?_
  rintro e w3 ⟨o3, hp⟩
  have hz3 := o3.size
  cases hr : r with
  | bad k =>
    rw [hr] at hp
    exact .inr ⟨_, hp, hbad k w3 hr (o2.tr o3)⟩
  | ok y =>
    rw [hr] at hp
    obtain ⟨cs, rfl, hnd, h3⟩ := hp
    obtain ⟨pw, cw, pa, ca, pr, cr, po, co, pk, ck, rfl, _⟩ := hnd.outs
    refine .inl ⟨_, _, _, _, _, _, _, _, _, _, _, _, _, _, _, _, _, _, rfl, allocK fun w4 r4 s4 z4 => allocK fun w5 r5 s5 z5 => stK r5 (by simp) (by simp [Value.oneCell']) fun w6 r6 m6 z6 => ?_⟩
    have hnd6 : NdE w6 (fun k => w.heap.size + 1 ≤ k ∧ k < w6.heap.size ∧ k ≠ w4.heap.size ∧ k ≠ w3.heap.size) y.1 _ := (((hnd.still s4).still s5).mod m6 (fun k hk e => by omega)).mono fun k hk => ⟨by omega, by omega, by omega, by omega⟩
    have r6 : Row w6 w4.heap.size 32 ⟨ncell (.mk kd false [] [] [] [] [] [y.1]) (.slice none 0 0) (.slice none 0 0) (.slice none 0 0) (.slice none 0 0) (.slice (some ⟨w3.heap.size, 0, none⟩) 1 1)⟩ := r6
    exact hok y w4 w6 _ _ hr (NB.mkK r6 ((r4.still s5).mod m6 (by omega)) hnd6 (Mod.trans (((o2.tr o3).tr s4.only).tr s5.only) m6 (fun _ h => h) (fun i hi e => by omega)) hg (by omega) (by omega) (by omega) (by omega) ⟨rfl, rfl, rfl, rfl, rfl⟩) ((((hres.mod o3 (by omega)).still s4).still s5).mod m6 (by omega)) (((h3.still s4).still s5).mod m6 (by intro k hk e; have := h3.lt; omega))
theorem dep_up {L : Nat} (hL : L < 100) : IntKind.i64.wrap (31 - ((L + 1 : Nat) : Int) + 1) = 31 - (L : Int) := by
  rw [wrap_i64 (by omega) (by omega)]
  omega
/-- A node whose list of redirections is nil is read so. -/
def SyC (w : World) (g : Nat) (r : Rs (Nd × Ts)) (e : Ending) (w' : World) : Prop := Only g w w' ∧ match r with
  | .ok x => ∃ cs, e = .returned (.agg ⟨cs⟩) ∧ NdE w' (fun k => w.heap.size ≤ k ∧ k < w'.heap.size) x.1 cs ∧ Pz w' g x.2 ∧ cs[5]? = some (.slice none 0 0)
  | .bad k => e = .panicked (errP k)
theorem SyC.p {g : Nat} {r : Rs (Nd × Ts)} {e : Ending} {w' : World} (h : SyC w g r e w') : SyP w g r e w' := by
  obtain ⟨o, h⟩ := h
  refine ⟨o, ?_⟩
  cases r with
  | bad k => exact h
  | ok x =>
    obtain ⟨cs, h1, h2, h3, _⟩ := h
    exact ⟨cs, h1, h2, h3⟩
theorem nExit_spec5 {w0 : World} {g gn B : Nat} {X : Nat → Prop} {x : Nd} {vw va vr vo vk : Value} {R : Ending → World → Prop} (h : NB w0 w g gn B X x vw va vr vo vk) (hres : Row w w0.heap.size 32 ⟨zcell⟩) (hB : w0.heap.size < B)
    (hR : ∀ w' cs, Mod (fun k => k = w0.heap.size) w w' → Only g w0 w' → NdE w' (fun k => w0.heap.size ≤ k ∧ k < w'.heap.size) x cs → cs[5]? = some vr → R (.returned (.agg ⟨cs⟩)) w') : NExit gn w0.heap.size w R := by
  have hn := h.nde
  obtain ⟨pw, cw, rfl⟩ := h.ow.form
  obtain ⟨pa, ca, rfl⟩ := h.oa.form
  obtain ⟨pr, cr, rfl⟩ := h.ord.form
  obtain ⟨po, co, rfl⟩ := h.oo.form
  obtain ⟨pk, ck, rfl⟩ := h.ok.form
  have hr := h.row
  refine ⟨_, _, _, _, _, _, _, _, _, _, _, _, _, _, _, _, _, _, hr.lget rfl, hr.lget rfl, hr.lget rfl, hr.lget rfl, hr.lget rfl, hr.lget rfl, hr.lget rfl, hr.lget rfl, stK hres (by simp) (by simp [Value.oneCell']) fun w' r' m' z' => ?_⟩
  refine ⟨_, _, _, _, _, _, _, _, _, _, _, _, _, _, _, _, _, _, r'.lget rfl, r'.lget rfl, r'.lget rfl, r'.lget rfl, r'.lget rfl, r'.lget rfl, r'.lget rfl, r'.lget rfl, hR w' _ m' (Mod.trans h.only m' (fun _ h => h) (fun i hi e => by omega)) ?_ rfl⟩
  exact (hn.mod m' fun k hk e => by omega).mono fun k hk => ⟨by omega, by omega⟩
theorem nExit_row5 {w0 : World} {g gn B : Nat} {x : Nd} {cs : List Value} {R : Ending → World → Prop} (hr : Row w gn 32 ⟨cs⟩) (hn : NdE w (fun k => B ≤ k ∧ k < w.heap.size) x cs) (ho : Only g w0 w) (hres : Row w w0.heap.size 32 ⟨zcell⟩) (hB : w0.heap.size < B)
    (hR : ∀ w', Mod (fun k => k = w0.heap.size) w w' → Only g w0 w' → NdE w' (fun k => w0.heap.size ≤ k ∧ k < w'.heap.size) x cs → R (.returned (.agg ⟨cs⟩)) w') : NExit gn w0.heap.size w R := by
  obtain ⟨pw, cw, pa, ca, pr, cr, po, co, pk, ck, rfl, _⟩ := hn.outs
  refine ⟨_, _, _, _, _, _, _, _, _, _, _, _, _, _, _, _, _, _, hr.lget rfl, hr.lget rfl, hr.lget rfl, hr.lget rfl, hr.lget rfl, hr.lget rfl, hr.lget rfl, hr.lget rfl, stK hres (by simp) (by simp [Value.oneCell']) fun w' r' m' z' => ?_⟩
  refine ⟨_, _, _, _, _, _, _, _, _, _, _, _, _, _, _, _, _, _, r'.lget rfl, r'.lget rfl, r'.lget rfl, r'.lget rfl, r'.lget rfl, r'.lget rfl, r'.lget rfl, r'.lget rfl, hR w' m' (Mod.trans ho m' (fun _ h => h) (fun i hi e => by omega)) ?_⟩
  exact (hn.mod m' fun k hk e => by omega).mono fun k hk => ⟨by omega, by omega⟩
end Go.Proofs.YtcoeiiihmpnagaaDoor
namespace Go.Proofs.YtcoeiiihmpnagaaDoor
open Go.RowKit Vc
variable {w : World}

theorem sub_of {L : Nat} (hL : L < 100) (hc : CmdS L) {g : Nat} {x : Nat × Txt} {r : Ts} (h : Pz w g (x :: r)) (hb : TB (x :: r)) : Calls Tryd.prog fn_syntax_parser_sub #[.pointer (some ⟨g, 0, none⟩), .int .i64 (31 - ((L + 1 : Nat) : Int))] w (SyC w g (insideF (lvS L).1 5 1 tShut r)) := by
  refine syntax_parser_sub_calls _ _ _ _ ?_
  have hg := h.lt
  refine allocK fun w1 r1 s1 z1 => (next_spec (h.still s1)).mono ?_
  rintro _ w2 ⟨rfl, o2, h2⟩
  refine .inl ⟨_, _, rfl, ?_⟩
  rw [dep_up hL]
  refine firstK_spec (kd := 5) (g := g) (r := someF (lvS L).1 r) (r1.mod o2 (by omega)) (s1.only.tr o2) hg (some_of hc h2 hb.tail) (fun k w' hr o => ⟨o, ?_⟩) (fun y w4 w6 vk X hr nb6 res6 h6 => ?_)
  · show match insideF (lvS L).1 5 1 tShut r with | .ok _ => _ | .bad _ => _
    simp only [insideF, hr, Rs.and]
  have hin : insideF (lvS L).1 5 1 tShut r = tookF 1 tShut (.mk 5 false [] [] [] [] [] [y.1], y.2) := by simp only [insideF, hr, Rs.and]
  rw [hin]
  refine (take_spec h6 1 (t := tShut) (by decide)).mono ?_
  rintro _ w7 ⟨rfl, o7, h7⟩
  have nb7 := nb6.on o7
  refine .inl ⟨_, rfl, wantK (fun ht => ?_) (fun ht => ⟨nb7.only, ?_⟩)⟩
  · rw [if_pos ht] at h7
    refine nExit_spec5 nb7 (res6.mod o7 (by omega)) (Nat.lt_succ_self _) fun w' cs' m' o' hn' h5' => ⟨o', ?_⟩
    unfold tookF
    rw [if_pos ht]
    exact ⟨_, rfl, hn', h7.mod m' (fun j hj e => by omega), h5'⟩
  · unfold tookF
    rw [if_neg (by rw [ht]; decide)]
theorem sygroup_of {L : Nat} (hL : L < 100) (hc : CmdS L) {g : Nat} {x : Nat × Txt} {r : Ts} (h : Pz w g (x :: r)) (hb : TB (x :: r)) : Calls Tryd.prog fn_syntax_parser_group #[.pointer (some ⟨g, 0, none⟩), .int .i64 (31 - ((L + 1 : Nat) : Int))] w (SyC w g (insideF (lvS L).1 4 0 tEcarb r)) := by
  refine syntax_parser_group_calls _ _ _ _ ?_
  have hg := h.lt
  refine allocK fun w1 r1 s1 z1 => (next_spec (h.still s1)).mono ?_
  rintro _ w2 ⟨rfl, o2, h2⟩
  refine .inl ⟨_, _, rfl, ?_⟩
  rw [dep_up hL]
  refine firstK_spec (kd := 4) (g := g) (r := someF (lvS L).1 r) (r1.mod o2 (by omega)) (s1.only.tr o2) hg (some_of hc h2 hb.tail) (fun k w' hr o => ⟨o, ?_⟩) (fun y w4 w6 vk X hr nb6 res6 h6 => ?_)
  · show match insideF (lvS L).1 4 0 tEcarb r with | .ok _ => _ | .bad _ => _
    simp only [insideF, hr, Rs.and]
  have hin : insideF (lvS L).1 4 0 tEcarb r = tookF 0 tEcarb (.mk 4 false [] [] [] [] [] [y.1], y.2) := by simp only [insideF, hr, Rs.and]
  rw [hin]
  refine (take_spec h6 0 (t := tEcarb) (by decide)).mono ?_
  rintro _ w7 ⟨rfl, o7, h7⟩
  have nb7 := nb6.on o7
  refine .inl ⟨_, rfl, wantK (fun ht => ?_) (fun ht => ⟨nb7.only, ?_⟩)⟩
  · rw [if_pos ht] at h7
    refine nExit_spec5 nb7 (res6.mod o7 (by omega)) (Nat.lt_succ_self _) fun w' cs' m' o' hn' h5' => ⟨o', ?_⟩
    unfold tookF
    rw [if_pos ht]
    exact ⟨_, rfl, hn', h7.mod m' (fun j hj e => by omega), h5'⟩
  · unfold tookF
    rw [if_neg (by rw [ht]; decide)]
/-- The answer of a call, kept in a box of its own. -/
theorem hold_spec {w2 : World} {g : Nat} {y : Nd × Ts} {e2 : Ending} (res2 : Row w2 w.heap.size 32 ⟨zcell⟩) (o2 : Only g w w2) (_hg : g < w.heap.size) {b : Nat} (hbw : w.heap.size + 1 ≤ b) (_hb2 : b ≤ w2.heap.size) (hp : ∃ cs, e2 = .returned (.agg ⟨cs⟩) ∧ NdE w2 (fun k => b ≤ k ∧ k < w2.heap.size) y.1 cs ∧ Pz w2 g y.2) : ∃ pw cw pa ca pr cr po co pk ck, e2 = .returned (.agg #[.int .i64 y.1.k, .bool y.1.neg, .string (S y.1.nm), .slice pw y.1.ws.length cw, .slice pa y.1.as.length ca, .slice pr y.1.rs.length cr, .slice po y.1.os.length co, .slice pk y.1.ks.length ck]) ∧ Pz w2 g y.2 ∧
    ∀ {K : World → Prop}, (∀ w4, Row w4 w2.heap.size 32 ⟨ncell y.1 (.slice pw y.1.ws.length cw) (.slice pa y.1.as.length ca) (.slice pr y.1.rs.length cr) (.slice po y.1.os.length co) (.slice pk y.1.ks.length ck)⟩ → Row w4 w.heap.size 32 ⟨zcell⟩ → Only g w w4 → Pz w4 g y.2 → NdE w4 (fun k => w.heap.size + 1 ≤ k ∧ k < w2.heap.size) y.1 (ncell y.1 (.slice pw y.1.ws.length cw) (.slice pa y.1.as.length ca) (.slice pr y.1.rs.length cr) (.slice po y.1.os.length co) (.slice pk y.1.ks.length ck)) → w4.heap.size = w2.heap.size + 1 → K w4) →
      letW (w2.alloc (.cells ⟨zcell⟩ 32)) (fun w3 => stCells (Addr.mk w2.heap.size 0 none) K 0 [.int .i64 y.1.k, .bool y.1.neg, .string (S y.1.nm), .slice pw y.1.ws.length cw, .slice pa y.1.as.length ca, .slice pr y.1.rs.length cr, .slice po y.1.os.length co, .slice pk y.1.ks.length ck] w3) := by
  have hl := res2.lt
  obtain ⟨cs, rfl, hnd, h2⟩ := hp
  obtain ⟨pw, cw, pa, ca, pr, cr, po, co, pk, ck, rfl, _⟩ := hnd.outs
  refine ⟨pw, cw, pa, ca, pr, cr, po, co, pk, ck, rfl, h2, fun {K} hK => allocK fun w3 r3 s3 z3 => stK r3 (by simp) (by simp [Value.oneCell']) fun w4 r4 m4 z4 => ?_⟩
  exact hK w4 r4 ((res2.still s3).mod m4 (by omega)) (Mod.trans (o2.tr s3.only) m4 (fun _ h => h) (fun i hi e => by omega)) ((h2.still s3).mod m4 (by intro k hk e; have := h2.lt; omega)) (((hnd.still s3).mod m4 (fun k hk e => by omega)).mono fun k hk => ⟨by omega, by omega⟩) (by omega)
theorem body_of {L : Nat} (hL : L < 100) (hc : CmdS L) {g : Nat} {s : Ts} (h : Pz w g s) (hb : TB s) : Calls Tryd.prog fn_syntax_parser_body #[.pointer (some ⟨g, 0, none⟩), .int .i64 (31 - ((L + 1 : Nat) : Int))] w (SyP w g (bodyF (lvS L).1 s)) := by
  refine syntax_parser_body_calls _ _ _ _ ?_
  have hg := h.lt
  refine allocK fun w1 r1 s1 z1 => (take_spec (h.still s1) 0 (t := tDo) (by decide)).mono ?_
  rintro _ w2 ⟨rfl, o2, h2⟩
  have hz2 := o2.size
  have o12 := s1.only.tr o2
  refine .inl ⟨_, rfl, wantK (fun ht => ?_) (fun ht => ⟨o12, ?_⟩)⟩
  rotate_left
  · have : bodyF (lvS L).1 s = .bad 100 := by unfold bodyF; rw [if_neg (by rw [ht]; decide)]
    rw [this]
  rw [if_pos ht] at h2
  have hbf : bodyF (lvS L).1 s = (someF (lvS L).1 s.tail).and fun x => tookF 0 tDone x := by unfold bodyF; rw [if_pos ht]
  rw [hbf, dep_up hL]
  refine (some_of hc h2 (hb.suf (tail_suf s))).mono ?_
  rintro e3 w3 ⟨o3, hp⟩
  have hz3 := o3.size
  have o13 := o12.tr o3
  cases hr : someF (lvS L).1 s.tail with
  | bad k =>
    rw [hr] at hp
    exact .inr ⟨_, hp, o13, rfl⟩
  | ok y =>
  rw [hr] at hp
  obtain ⟨pw, cw, pa, ca, pr, cr, po, co, pk, ck, rfl, _, hK⟩ := hold_spec ((r1.mod o2 (by omega)).mod o3 (by omega)) o13 hg (b := w2.heap.size) (by omega) hz3 hp
  simp only [Rs.and]
  refine .inl ⟨_, _, _, _, _, _, _, _, _, _, _, _, _, _, _, _, _, _, rfl, hK fun w5 r5 res5 o5 h5 hn5 z5 => ?_⟩
  refine (take_spec h5 0 (t := tDone) (by decide)).mono ?_
  rintro _ w6 ⟨rfl, o6, h6⟩
  have hz6 := o6.size
  refine .inl ⟨_, rfl, wantK (fun ht => ?_) (fun ht => ⟨o5.tr o6, ?_⟩)⟩
  · rw [if_pos ht] at h6
    unfold tookF
    rw [if_pos ht]
    exact nExit_row (r5.mod o6 (by omega)) ((hn5.mod o6 fun k hk e => by omega).mono fun k hk => ⟨hk.1, by omega⟩) (o5.tr o6) (res5.mod o6 (by omega)) (Nat.lt_succ_self _) fun w' cs' m' o' hn' => ⟨o', _, rfl, hn', h6.mod m' fun j hj e => by omega⟩
  · unfold tookF
    rw [if_neg (by rw [ht]; decide)]
theorem loop_of {L : Nat} (hL : L < 100) (hc : CmdS L) {g : Nat} {x : Nat × Txt} {r : Ts} (h : Pz w g (x :: r)) (hb : TB (x :: r)) : Calls Tryd.prog fn_syntax_parser_loop #[.pointer (some ⟨g, 0, none⟩), .int .i64 (31 - ((L + 1 : Nat) : Int))] w (SyC w g (loopSF (lvS L).1 x.2 r)) := by
  refine syntax_parser_loop_calls _ _ _ _ ?_
  have hg := h.lt
  refine allocK fun w1 r1 s1 z1 => (next_spec (h.still s1)).mono ?_
  rintro _ w2 ⟨rfl, o2, h2⟩
  have hz2 := o2.size
  refine .inl ⟨_, _, rfl, allocK fun w3 r3 s3 z3 => stK r3 (by simp) (by simp [Value.oneCell']) fun w4 r4 m4 z4 => ?_⟩
  have r4 : Row w4 w2.heap.size 32 ⟨ncell (.mk 7 false x.2 [] [] [] [] []) (.slice none 0 0) (.slice none 0 0) (.slice none 0 0) (.slice none 0 0) (.slice none 0 0)⟩ := r4
  have res4 : Row w4 w.heap.size 32 ⟨zcell⟩ := ((r1.mod o2 (by omega)).still s3).mod m4 (by omega)
  have o4 : Only g w w4 := Mod.trans ((s1.only.tr o2).tr s3.only) m4 (fun _ h => h) (fun i hi e => by omega)
  have h4 := (h2.still s3).mod m4 (by intro k hk e; omega)
  have nb4 := NB.mk0 (B := w.heap.size + 1) r4 o4 hg (by omega) (by omega) ⟨rfl, rfl, rfl, rfl, rfl⟩
  rw [dep_up hL]
  have hls : loopSF (lvS L).1 x.2 r = (someF (lvS L).1 r).and fun c => (bodyF (lvS L).1 c.2).and fun b => .ok (.mk 7 false x.2 [] [] [] [] [c.1, b.1], b.2) := rfl
  rw [hls]
  refine kidK_spec nb4 (some_of hc (h4.still (drew_still _)) hb.tail) (show 0 < 1000000 by decide) (fun k w' hr o => ⟨o, ?_⟩) (fun y vk5 w5 X5 hr nb5 h5 m5 => ?_)
  · rw [hr]
    rfl
  rw [hr]
  simp only [Rs.and]
  have res5 := res4.mod m5 (by intro e; omega)
  refine kidK_spec nb5 (body_of hL hc (h5.still (drew_still _)) (hb.tail.suf (someF_suf (lvS_suf L).1 _ _ hr))) (show 1 < 1000000 by decide) (fun k w' hr o => ⟨o, ?_⟩) (fun z vk6 w6 X6 hr nb6 h6 m6 => ?_)
  · rw [hr]
  rw [hr]
  exact nExit_spec5 nb6 (res5.mod m6 (by intro e; omega)) (Nat.lt_succ_self _) fun w' cs' m' o' hn' h5' => ⟨o', _, rfl, hn', h6.mod m' (fun j hj e => by omega), h5'⟩
end Go.Proofs.YtcoeiiihmpnagaaDoor
namespace Go.Proofs.YtcoeiiihmpnagaaDoor
open Go.RowKit Vc
variable {w : World}

def BrS (L : Nat) : Prop := ∀ (w : World) (g : Nat) (x : Nat × Txt) (r : Ts), Pz w g (x :: r) → TB (x :: r) → L ≠ 0 → Calls Tryd.prog fn_syntax_parser_branch #[.pointer (some ⟨g, 0, none⟩), .int .i64 (31 - (L : Int))] w (SyC w g ((lvS L).2 r))
theorem listN_at {w : World} {B b : Nat} {x : Nd} {cs : List Value} (hr : Row w b 32 ⟨cs⟩) (hB : B ≤ b) (hn : NdE w (fun k => B ≤ k ∧ k < w.heap.size ∧ k ≠ b) x cs) : NdE w (fun k => B ≤ k ∧ k < w.heap.size) (listN [x]) (ncell (listN [x]) (.slice none 0 0) (.slice none 0 0) (.slice none 0 0) (.slice none 0 0) (.slice (some ⟨b, 0, none⟩) 1 1)) :=
  NdE.of (Enc.OutX.nil wsE w B 49 (fun _ => False) 0).at (Enc.OutX.nil nsE w B 51 (fun _ => False) 0).at (Enc.OutX.nil nsE w B 54 (fun _ => False) 0).at (Enc.OutX.nil osE w B 9 (fun _ => False) 0).at
    (Enc.OutX.row (e := ndE) (l := [x]) (gn := b + 1) (X := fun k => k = b) hr hB (by omega) rfl (show 1 ≤ 1000000 by decide) (Enc.Cs.single hn)).at
theorem Rs.ok_and {α β : Type} (x : α) (f : α → Rs β) : (Rs.ok x).and f = f x := rfl
theorem branch_of {L : Nat} (hL : L < 100) (hc : CmdS L) (hbr : BrS L) : BrS (L + 1) := by
  intro w g x r h hb _
  refine syntax_parser_branch_calls _ _ _ _ ?_
  have hg := h.lt
  have hsf := someF_suf (lvS_suf L).1
  have hlv : (lvS (L + 1)).2 r = (someF (lvS L).1 r).and fun c => (tookF 0 tThen c).and fun c => (someF (lvS L).1 c.2).and fun t =>
    if isT 0 tElif t.2 = true then ((lvS L).2 t.2.tail).and fun x => .ok (.mk 6 false [] [] [] [] [] [c.1, t.1, listN [x.1]], x.2)
    else if isT 0 tElse t.2 = true then (someF (lvS L).1 t.2.tail).and fun x => .ok (.mk 6 false [] [] [] [] [] [c.1, t.1, x.1], x.2)
    else .ok (.mk 6 false [] [] [] [] [] [c.1, t.1], t.2) := rfl
  rw [hlv]
  clear hlv
  refine allocK fun w1 r1 s1 z1 => (next_spec (h.still s1)).mono ?_
  rintro _ w2 ⟨rfl, o2, h2⟩
  refine .inl ⟨_, _, rfl, ?_⟩
  rw [dep_up hL]
  refine firstK_spec (kd := 6) (g := g) (r := someF (lvS L).1 r) (r1.mod o2 (by omega)) (s1.only.tr o2) hg (some_of hc h2 hb.tail) (fun k w' hr o => ⟨o, ?_⟩) (fun y w4 w6 vk X hr nb6 res6 h6 => ?_)
  · rw [hr]
    rfl
  rw [hr]
  have hsy := hsf _ _ hr
  clear hr
  simp only [Rs.ok_and]
  refine (take_spec h6 0 (t := tThen) (by decide)).mono ?_
  rintro _ w7 ⟨rfl, o7, h7⟩
  have nb7 := nb6.on o7
  have res7 := res6.mod o7 (by omega)
  refine .inl ⟨_, rfl, wantK (fun ht => ?_) (fun ht => ⟨nb7.only, ?_⟩)⟩
  rotate_left
  · have : tookF 0 tThen y = .bad 100 := by unfold tookF; rw [if_neg (by rw [ht]; decide)]
    rw [this]
    rfl
  have htk : tookF 0 tThen y = .ok (y.1, y.2.tail) := by unfold tookF; rw [if_pos ht]
  rw [htk]
  rw [if_pos ht] at h7
  have hb7 : TB y.2.tail := hb.tail.suf ((tail_suf _).trans hsy)
  clear htk
  simp only [Rs.ok_and]
  refine kidK_spec nb7 (some_of hc (h7.still (drew_still _)) hb7) (show 1 < 1000000 by decide) (fun k w' hr o => ⟨o, ?_⟩) (fun t vk8 w8 X8 hr nb8 h8 m8 => ?_)
  · rw [hr]
    rfl
  rw [hr]
  have hb8 := hb7.suf (hsf _ _ hr)
  have res8 := res7.mod m8 (by intro e; omega)
  clear hr
  simp only [Rs.ok_and]
  have nb8 : NB w w8 g w4.heap.size (w.heap.size + 1) X8 (.mk 6 false [] [] [] [] [] [y.1, t.1]) (.slice none 0 0) (.slice none 0 0) (.slice none 0 0) (.slice none 0 0) vk8 := nb8
  generalize hres : (if isT 0 tElif t.2 = true then ((lvS L).2 t.2.tail).and fun x => (Rs.ok : Nd × Ts → Rs (Nd × Ts)) (Nd.mk 6 false [] [] [] [] [] [y.1, t.1, listN [x.1]], x.2)
    else if isT 0 tElse t.2 = true then (someF (lvS L).1 t.2.tail).and fun x => .ok (.mk 6 false [] [] [] [] [] [y.1, t.1, x.1], x.2)
    else .ok (.mk 6 false [] [] [] [] [] [y.1, t.1], t.2)) = res
  refine ⟨fun w9 => ∃ (z : Nd × Ts) (vk : Value) (X : Nat → Prop), res = .ok z ∧ NB w w9 g w4.heap.size (w.heap.size + 1) X z.1 (.slice none 0 0) (.slice none 0 0) (.slice none 0 0) (.slice none 0 0) vk ∧ Row w9 w.heap.size 32 ⟨zcell⟩ ∧ Pz w9 g z.2, ?_, ?_⟩
  rotate_left
  · rintro _ w9 ⟨z, vk, X, hz, nb9, res9, h9⟩
    refine nExit_spec5 nb9 res9 (Nat.lt_succ_self _) fun w' cs' m' o' hn' h5' => ⟨o', ?_⟩
    rw [hz]
    exact ⟨_, rfl, hn', h9.mod m' (fun j hj e => by omega), h5'⟩
  refine allocK fun w9 r9 s9 z9 => (at_spec (h8.still s9) 0 (StrsAt.row (l := [tElif]) r9) (by decide)).mono ?_
  rintro _ w10 ⟨rfl, s10⟩
  rw [atB_one (by decide)]
  have s810 := s9.trans s10
  have nb10 := nb8.still s810
  have res10 := res8.still s810
  have h10 := h8.still s810
  refine .inl ⟨_, rfl, bsel_of (fun hx => ?_) (fun hx => ?_)⟩
  · rw [if_pos hx] at hres
    refine bsel_of (fun hd => ?_) (fun hd => ?_)
    · have hL0 : L = 0 := by have := of_decide_eq_true hd; omega
      subst hL0
      have : res = .bad 2 := hres.symm
      rw [this]
      exact ⟨nb10.only, rfl⟩
    have hL0 : L ≠ 0 := by have := of_decide_eq_false hd; omega
    obtain ⟨q, u, hqu⟩ : ∃ q u, t.2 = q :: u := by
      cases ht2 : t.2 with
      | nil => rw [ht2] at hx; cases hx
      | cons q u => exact ⟨q, u, rfl⟩
    obtain ⟨pk, ck, rfl⟩ := nb10.ok.form
    have nb10' := nb10.still (drew_still w10)
    have res10' := res10.still (drew_still w10)
    have h10' := h10.still (drew_still w10)
    rw [hqu] at h10' hb8
    refine ⟨fun wq => wq.cell? (Addr.mk w4.heap.size 7 none) = some (.slice pk 2 ck), nb10'.row.lget rfl, pk, 2, ck, fun _ h => h, (hbr _ _ _ _ h10' hb8 hL0).mono ?_⟩
    rintro e11 w11 ⟨o11, hp⟩
    have nb11 := nb10'.on o11
    rw [hqu] at hres
    simp only [List.tail_cons] at hres
    cases hr : (lvS L).2 u with
    | bad k =>
      rw [hr] at hp hres
      rw [← hres]
      exact .inr ⟨_, hp, nb11.only, rfl⟩
    | ok z =>
    rw [hr] at hp hres
    obtain ⟨cs, rfl, hnd, h11, _⟩ := hp
    obtain ⟨pw, cw, pa, ca, pr, cr, po, co, pk', ck', rfl, _⟩ := hnd.outs
    have hz11 := o11.size
    refine .inl ⟨_, _, _, _, _, _, _, _, _, _, _, _, _, _, _, _, _, _, rfl, nb11.row.lget rfl, allocK fun w12 r12 s12 z12 => ⟨(nb11.still s12).row.lget rfl, ?_⟩⟩
    have hl := listN_at (B := w10.drew.heap.size) r12 hz11 ((hnd.still s12).mono fun k hk => ⟨by omega, by omega, by omega⟩)
    refine NB.addK (x := .mk 6 false [] [] [] [] [] [y.1, t.1]) (y := listN [z.1]) (cs := ncell (listN [z.1]) (.slice none 0 0) (.slice none 0 0) (.slice none 0 0) (.slice none 0 0) (.slice (some ⟨w11.heap.size, 0, none⟩) 1 1)) nb10' (o11.tr s12.only) hl (show 2 < 1000000 by decide) fun p' c' w13 X13 nb13 m13 => ?_
    refine ⟨(.mk 6 false [] [] [] [] [] [y.1, t.1, listN [z.1]], z.2), _, X13, hres.symm, nb13, ((res10'.mod o11 (by omega)).still s12).mod m13 (by omega), (h11.still s12).mod m13 fun k hk hb => by omega⟩
  · rw [if_neg (by rw [hx]; decide)] at hres
    refine (take_spec h10 0 (t := tElse) (by decide)).mono ?_
    rintro _ w11 ⟨rfl, o11, h11⟩
    have nb11 := nb10.on o11
    have res11 := res10.mod o11 (by omega)
    refine .inl ⟨_, rfl, bsel_of (fun hy => ?_) (fun hy => ?_)⟩
    · rw [if_pos hy] at hres h11
      refine kidK_spec nb11 (some_of hc (h11.still (drew_still _)) (hb8.suf (tail_suf _))) (show 2 < 1000000 by decide) (fun k w' hr o => ⟨o, ?_⟩) (fun z vk12 w12 X12 hr nb12 h12 m12 => ?_)
      · rw [hr] at hres
        rw [← hres]
        rfl
      rw [hr] at hres
      exact ⟨(.mk 6 false [] [] [] [] [] [y.1, t.1, z.1], z.2), vk12, X12, hres.symm, nb12, res11.mod m12 (by intro e; omega), h12⟩
    · rw [if_neg (by rw [hy]; decide)] at hres h11
      exact ⟨_, _, _, hres.symm, nb11, res11, h11⟩
theorem choice_of {L : Nat} (hbr : BrS (L + 1)) {g : Nat} {x : Nat × Txt} {r : Ts} (h : Pz w g (x :: r)) (hb : TB (x :: r)) : Calls Tryd.prog fn_syntax_parser_choice #[.pointer (some ⟨g, 0, none⟩), .int .i64 (31 - ((L + 1 : Nat) : Int))] w (SyC w g (((lvS (L + 1)).2 r).and (tookF 0 tFi))) := by
  refine syntax_parser_choice_calls _ _ _ _ ?_
  have hg := h.lt
  refine allocK fun w1 r1 s1 z1 => (hbr _ _ _ _ (h.still s1) hb (by omega)).mono ?_
  rintro e3 w3 ⟨o3, hp⟩
  have hz3 := o3.size
  have o13 := s1.only.tr o3
  cases hr : (lvS (L + 1)).2 r with
  | bad k =>
    rw [hr] at hp
    exact .inr ⟨_, hp, o13, rfl⟩
  | ok y =>
  rw [hr] at hp
  obtain ⟨cs, he, hnd, hpz, hc5⟩ := hp
  obtain ⟨pw, cw, pa, ca, pr, cr, po, co, pk, ck, he2, _, hK⟩ := hold_spec (r1.mod o3 (by omega)) o13 hg (b := w1.heap.size) (by omega) hz3 ⟨cs, he, hnd, hpz⟩
  have hcs : cs = ncell y.1 (.slice pw y.1.ws.length cw) (.slice pa y.1.as.length ca) (.slice pr y.1.rs.length cr) (.slice po y.1.os.length co) (.slice pk y.1.ks.length ck) := by
    rw [he] at he2
    injection he2 with he2
    injection he2 with he2
    exact congrArg Array.toList he2
  rw [hcs] at hc5
  subst he2
  simp only [Rs.and]
  refine .inl ⟨_, _, _, _, _, _, _, _, _, _, _, _, _, _, _, _, _, _, rfl, hK fun w5 r5 res5 o5 h5 hn5 z5 => ?_⟩
  refine (take_spec h5 0 (t := tFi) (by decide)).mono ?_
  rintro _ w6 ⟨rfl, o6, h6⟩
  have hz6 := o6.size
  refine .inl ⟨_, rfl, wantK (fun ht => ?_) (fun ht => ⟨o5.tr o6, ?_⟩)⟩
  · rw [if_pos ht] at h6
    unfold tookF
    rw [if_pos ht]
    exact nExit_row5 (r5.mod o6 (by omega)) ((hn5.mod o6 fun k hk e => by omega).mono fun k hk => ⟨hk.1, by omega⟩) (o5.tr o6) (res5.mod o6 (by omega)) (Nat.lt_succ_self _) fun w' m' o' hn' => ⟨o', _, rfl, hn', h6.mod m' (fun j hj e => by omega), hc5⟩
  · unfold tookF
    rw [if_neg (by rw [ht]; decide)]
end Go.Proofs.YtcoeiiihmpnagaaDoor
namespace Go.Proofs.YtcoeiiihmpnagaaDoor
open Go.RowKit Vc
variable {w : World}

def firstWK (g : Nat) (kd : Int) (w2 : World) (K : World → World → Prop) (R : Ending → World → Prop) : Prop :=
  Calls Tryd.prog fn_syntax_parser_parts #[.pointer (some ⟨g, 0, none⟩)] w2 (fun ed w3 => (∃ (r : Option Addr) (rL rC : Nat), ed = .returned (.slice r rL rC) ∧ letW (w3.alloc (.cells #[(.slice r rL rC)] 49)) (fun (w4 : World) => letW (w4.alloc (.cells #[(.int .i64 0), (.bool false), (.string (S ([] : List UInt8))), (.slice none 0 0), (.slice none 0 0), (.slice none 0 0), (.slice none 0 0), (.slice none 0 0)] 32)) (fun (w5 : World) => stCells (Addr.mk w4.heap.size 0 none) (fun w6 => K w4 w6) 0 [(.int .i64 kd), (.bool false), (.string (S ([] : List UInt8))), (.slice (some (Addr.mk w3.heap.size 0 none)) 1 1), (.slice none 0 0), (.slice none 0 0), (.slice none 0 0), (.slice none 0 0)] w5))) ∨ (∃ ch, ed = .panicked ch ∧ R (.panicked ch) w3))
theorem firstWK_spec {w2 : World} {g : Nat} {kd : Int} {s : Ts} (hres : Row w2 w.heap.size 32 ⟨zcell⟩) (o2 : Only g w w2) (hg : g < w.heap.size) (h2 : Pz w2 g s) (hb : TB s) {K : World → World → Prop} {R : Ending → World → Prop}
    (hbad : ∀ k w', partsF s = .bad k → Only g w w' → R (.panicked (errP k)) w') (hok : ∀ y w4 w6 vw X, partsF s = .ok y → NB w w6 g w4.heap.size (w.heap.size + 1) X (.mk kd false [] [y.1] [] [] [] []) vw (.slice none 0 0) (.slice none 0 0) (.slice none 0 0) (.slice none 0 0) → Row w6 w.heap.size 32 ⟨zcell⟩ → Pz w6 g y.2 → K w4 w6) : firstWK g kd w2 K R := by
  have hl := hres.lt
  refine (parts_spec h2 hb).mono ?_
  rintro e w3 ⟨o3, hp⟩
  have hz3 := o3.size
  cases hr : partsF s with
  | bad k =>
    rw [hr] at hp
    exact .inr ⟨_, hp, hbad k w3 hr (o2.tr o3)⟩
  | ok y =>
    rw [hr] at hp
    obtain ⟨v, rfl, hsl, h3⟩ := hp
    obtain ⟨q, d, rfl⟩ := hsl.form
    refine .inl ⟨_, _, _, rfl, allocK fun w4 r4 s4 z4 => allocK fun w5 r5 s5 z5 => stK r5 (by simp) (by simp [Value.oneCell']) fun w6 r6 m6 z6 => ?_⟩
    have hsl6 : SlAt w6 (fun k => w.heap.size + 1 ≤ k ∧ k < w6.heap.size ∧ k ≠ w4.heap.size ∧ k ≠ w3.heap.size) y.1 (.slice q y.1.length d) := hsl.turn (fun k hk => ⟨by omega, by omega, by omega, by omega⟩) fun a v ⟨k, hk, ea⟩ hcell => mod_cell m6 (by rw [ea]; show ¬ k = w4.heap.size; omega) (s5.cell (s4.cell hcell))
    have r6 : Row w6 w4.heap.size 32 ⟨ncell (.mk kd false [] [y.1] [] [] [] []) (.slice (some ⟨w3.heap.size, 0, none⟩) 1 1) (.slice none 0 0) (.slice none 0 0) (.slice none 0 0) (.slice none 0 0)⟩ := r6
    exact hok y w4 w6 _ _ hr (NB.mkW r6 ((r4.still s5).mod m6 (by omega)) hsl6 (Mod.trans (((o2.tr o3).tr s4.only).tr s5.only) m6 (fun _ h => h) (fun i hi e => by omega)) hg (by omega) (by omega) (by omega) (by omega) ⟨rfl, rfl, rfl, rfl, rfl⟩) ((((hres.mod o3 (by omega)).still s4).still s5).mod m6 (by omega)) (((h3.still s4).still s5).mod m6 (by intro k hk e; have := h3.lt; omega))
theorem item_of {L : Nat} (hL : L < 100) (hc : CmdS L) {g : Nat} {s : Ts} (h : Pz w g s) (hb : TB s) : Calls Tryd.prog fn_syntax_parser_item #[.pointer (some ⟨g, 0, none⟩), .int .i64 (31 - ((L + 1 : Nat) : Int))] w (SyP w g (itemF (lvS L).1 s)) := by
  refine syntax_parser_item_calls _ _ _ _ ?_
  have hg := h.lt
  have hlv : itemF (lvS L).1 s = (partsF (if isT 1 tOpen s = true then s.tail else s)).and fun w => (manyF orsS [w.1] w.2).and fun ws =>
    if isT 1 tShut ws.2 = true then (listF (lvS L).1 ws.2.tail).and fun x => .ok (.mk 10 false [] ws.1 [] [] [] [x.1], x.2) else .bad 100 := rfl
  rw [hlv]
  clear hlv
  refine allocK fun w1 r1 s1 z1 => (take_spec (h.still s1) 1 (t := tOpen) (by decide)).mono ?_
  rintro _ w2 ⟨rfl, o2, h2⟩
  have hb2 : TB (if isT 1 tOpen s = true then s.tail else s) := hb.suf (ite_suf _ s)
  refine .inl ⟨_, rfl, ?_⟩
  generalize (if isT 1 tOpen s = true then s.tail else s) = s0 at *
  refine firstWK_spec (kd := 10) (g := g) (s := s0) (r1.mod o2 (by omega)) (s1.only.tr o2) hg h2 hb2 (fun k w' hr o => ⟨o, ?_⟩) (fun y w4 w6 vw X hr nb6 res6 h6 => ?_)
  · rw [hr]
    rfl
  rw [hr, Rs.ok_and]
  have hy1 := partsF_eats _ _ hr
  have hy2 := partsF_suf _ _ hr
  clear hr
  have hs0 := hb2.1
  rw [dep_up hL]
  refine ⟨fun w9 => ∃ s9 ws vw X, NB w w9 g w4.heap.size (w.heap.size + 1) X (.mk 10 false [] ws [] [] [] []) vw (.slice none 0 0) (.slice none 0 0) (.slice none 0 0) (.slice none 0 0) ∧ Row w9 w.heap.size 32 ⟨zcell⟩ ∧ Pz w9 g s9 ∧ s9 <:+ s0 ∧ ws.length + s9.length ≤ s0.length ∧ manyF orsS ws s9 = manyF orsS [y.1] y.2, pzLen g, ⟨y.2, [y.1], vw, X, nb6, res6, h6, hy2, by simp only [List.length_cons, List.length_nil]; omega, rfl⟩, ?_⟩
  rintro _ w7 ⟨s9, ws, vw, X, nb7, res7, h7, hsf9, hlen, heq⟩
  rw [← heq, manyF_step orsS_sinks]
  clear heq
  have hb9 := hb2.suf hsf9
  refine (take_spec h7 1 (t := tPipe) (by decide)).mono ?_
  rintro _ w8 ⟨rfl, o8, h8⟩
  have nb8 := nb7.on o8
  have res8 := res7.mod o8 (by omega)
  refine .inl ⟨_, rfl, bsel_of (fun hx => ?_) (fun hx => ?_)⟩
  · rw [if_pos hx] at h8
    have hst : orsS ws s9 = (partsF s9.tail).and fun x => .ok (.inl (ws ++ [x.1], x.2)) := by unfold orsS; rw [if_pos hx]
    rw [hst]
    clear hst
    have htl := isT_len hx
    refine wordK_spec nb8 h8 (hb9.suf (tail_suf _)) (show ws.length < 1000000 by omega) (fun k w' hr o => ⟨o, ?_⟩) (fun z vw9 w9 X9 hr nb9 h9 m9 => ?_)
    · rw [hr]
      rfl
    rw [hr]
    have hz1 := partsF_eats _ _ hr
    have hz2 := partsF_suf _ _ hr
    refine ⟨⟨z.2, ws ++ [z.1], vw9, X9, nb9, res8.mod m9 (by intro e; omega), h9, hz2.trans ((tail_suf _).trans hsf9), by simp only [List.length_append, List.length_cons, List.length_nil]; omega, rfl⟩, by rw [h9.len, h7.len]; omega⟩
  · rw [if_neg (by rw [hx]; decide)] at h8
    have hst : orsS ws s9 = .ok (.inr (ws, s9)) := by unfold orsS; rw [if_neg (by rw [hx]; decide)]
    rw [hst, Rs.ok_and, Rs.ok_and]
    clear hst
    refine (take_spec h8 1 (t := tShut) (by decide)).mono ?_
    rintro _ w10 ⟨rfl, o10, h10⟩
    have nb10 := nb8.on o10
    have res10 := res8.mod o10 (by omega)
    refine .inl ⟨_, rfl, wantK (fun ht => ?_) (fun ht => ⟨nb10.only, ?_⟩)⟩
    rotate_left
    · rw [if_neg (by rw [ht]; decide)]
    rw [if_pos ht] at h10
    rw [if_pos ht]
    refine (list_of hc h10 (hb9.suf (tail_suf _))).mono ?_
    rintro e11 w11 ⟨o11, hp⟩
    have nb11 := nb10.on o11
    cases hr : listF (lvS L).1 s9.tail with
    | bad k =>
      rw [hr] at hp
      exact .inr ⟨_, hp, nb11.only, rfl⟩
    | ok z =>
    rw [hr] at hp
    obtain ⟨cs, rfl, hnd, h11⟩ := hp
    obtain ⟨pw, cw, pa, ca, pr, cr, po, co, pk, ck, rfl, _⟩ := hnd.outs
    refine .inl ⟨_, _, _, _, _, _, _, _, _, _, _, _, _, _, _, _, _, _, rfl, setK_spec nb10 o11 hnd fun vk12 w12 X12 nb12 m12 => ?_⟩
    exact nExit_spec nb12 ((res10.mod o11 (by omega)).mod m12 (by intro e; omega)) (Nat.lt_succ_self _) fun w' cs' m' o' hn' => ⟨o', _, rfl, hn', (h11.mod m12 (by intro k hk e; omega)).mod m' fun j hj e => by omega⟩
theorem cases_of {L : Nat} (hL : L < 100) (hc : CmdS L) {g : Nat} {x : Nat × Txt} {r : Ts} (h : Pz w g (x :: r)) (hb : TB (x :: r)) : Calls Tryd.prog fn_syntax_parser_cases #[.pointer (some ⟨g, 0, none⟩), .int .i64 (31 - ((L + 1 : Nat) : Int))] w (SyC w g (casesF (lvS L).1 r)) := by
  refine syntax_parser_cases_calls _ _ _ _ ?_
  have hg := h.lt
  have he := (lvS_eats L).1
  have hlv : casesF (lvS L).1 r = (partsF r).and fun w => if isT 0 tIn (linesF w.2) = true then manyF (caseS (lvS L).1 w.1) [] (linesF (linesF w.2).tail) else .bad 100 := rfl
  rw [hlv]
  clear hlv
  refine allocK fun w1 r1 s1 z1 => (next_spec (h.still s1)).mono ?_
  rintro _ w2 ⟨rfl, o2, h2⟩
  refine .inl ⟨_, _, rfl, ?_⟩
  have hbr := hb.tail
  refine firstWK_spec (kd := 9) (g := g) (s := r) (r1.mod o2 (by omega)) (s1.only.tr o2) hg h2 hbr (fun k w' hr o => ⟨o, ?_⟩) (fun y w4 w6 vw X hr nb6 res6 h6 => ?_)
  · rw [hr]
    rfl
  rw [hr, Rs.ok_and]
  have hy1 := partsF_eats _ _ hr
  have hy2 := partsF_suf _ _ hr
  clear hr
  refine (lines_spec h6).mono ?_
  rintro _ w7 ⟨rfl, o7, h7⟩
  refine .inl ⟨rfl, (take_spec h7 0 (t := tIn) (by decide)).mono ?_⟩
  rintro _ w8 ⟨rfl, o8, h8⟩
  have nb8 := (nb6.on o7).on o8
  have res8 := (res6.mod o7 (by omega)).mod o8 (by omega)
  refine .inl ⟨_, rfl, wantK (fun ht => ?_) (fun ht => ⟨nb8.only, ?_⟩)⟩
  rotate_left
  · rw [if_neg (by rw [ht]; decide)]
  rw [if_pos ht] at h8
  rw [if_pos ht]
  refine (lines_spec h8).mono ?_
  rintro _ w9 ⟨rfl, o9, h9⟩
  have hs0s : linesF (linesF y.2).tail <:+ r := (linesF_suf _).trans ((tail_suf _).trans ((linesF_suf _).trans hy2))
  generalize linesF (linesF y.2).tail = s0 at *
  have hb0 := hbr.suf hs0s
  have hs0 := hb0.1
  refine .inl ⟨rfl, fun w11 => ∃ s9 ks vk X, NB w w11 g w4.heap.size (w.heap.size + 1) X (.mk 9 false [] [y.1] [] [] [] ks) vw (.slice none 0 0) (.slice none 0 0) (.slice none 0 0) vk ∧ Row w11 w.heap.size 32 ⟨zcell⟩ ∧ Pz w11 g s9 ∧ s9 <:+ s0 ∧ ks.length + s9.length ≤ s0.length ∧ manyF (caseS (lvS L).1 y.1) ks s9 = manyF (caseS (lvS L).1 y.1) [] s0, pzLen g, ⟨s0, [], _, X, nb8.on o9, res8.mod o9 (by omega), h9, List.suffix_refl _, by simp only [List.length_nil]; omega, rfl⟩, ?_⟩
  rintro _ w11 ⟨s9, ks, vk, X11, nb11, res11, h11, hsf9, hlen, heq⟩
  rw [← heq, manyF_step (caseS_sinks he _)]
  clear heq
  have hb9 := hb0.suf hsf9
  refine (take_spec h11 0 (t := tEsac) (by decide)).mono ?_
  rintro _ w12 ⟨rfl, o12, h12⟩
  have nb12 := nb11.on o12
  have res12 := res11.mod o12 (by omega)
  refine .inl ⟨_, rfl, bsel_of (fun hx => ?_) (fun hx => ?_)⟩
  · have hx : isT 0 tEsac s9 = false := by simpa using hx
    rw [if_neg (by rw [hx]; decide)] at h12
    have hst : caseS (lvS L).1 y.1 ks s9 = (itemF (lvS L).1 s9).and fun x =>
      if isT 1 tSemi2 x.2 = true then .ok (.inl (ks ++ [x.1], linesF x.2.tail))
      else if isT 0 tEsac x.2 = true then .ok (.inl (ks ++ [x.1], linesF x.2))
      else .bad 100 := by unfold caseS; rw [if_neg (by rw [hx]; decide)]
    rw [hst]
    clear hst
    refine kidK_spec nb12 (item_of hL hc (h12.still (drew_still _)) hb9) (show ks.length < 1000000 by omega) (fun k w' hr o => ⟨o, ?_⟩) (fun z vk13 w13 X13 hr nb13 h13 m13 => ?_)
    · rw [hr]
      rfl
    rw [hr, Rs.ok_and]
    have hz1 := itemF_eats he _ _ hr
    have hz2 := itemF_suf (lvS_suf L).1 _ _ hr
    clear hr
    have res13 := res12.mod m13 (by intro e; omega)
    refine (take_spec h13 1 (t := tSemi2) (by decide)).mono ?_
    rintro _ w14 ⟨rfl, o14, h14⟩
    have nb14 := nb13.on o14
    have res14 := res13.mod o14 (by omega)
    refine .inl ⟨_, rfl, bsel_of (fun hy => ?_) (fun hy => ?_)⟩
    · rw [if_pos hy] at h14
      rw [if_pos hy, Rs.ok_and]
      refine wantK (fun _ => ?_) (fun hf => by cases hf)
      refine (lines_spec h14).mono ?_
      rintro _ w15 ⟨rfl, o15, h15⟩
      have hll := linesF_le z.2.tail
      have htl := isT_len hy
      refine .inl ⟨rfl, ⟨linesF z.2.tail, ks ++ [z.1], vk13, X13, nb14.on o15, res14.mod o15 (by omega), h15, (linesF_suf _).trans ((tail_suf _).trans (hz2.trans hsf9)), by simp only [List.length_append, List.length_cons, List.length_nil]; omega, rfl⟩, by rw [h15.len, h11.len]; omega⟩
    · rw [if_neg (by rw [hy]; decide)] at h14
      rw [if_neg (by rw [hy]; decide)]
      refine allocK fun w15 r15 s15 z15 => (at_spec (h14.still s15) 0 (StrsAt.row (l := [tEsac]) r15) (by decide)).mono ?_
      rintro _ w16 ⟨rfl, s16⟩
      rw [atB_one (by decide)]
      have s1416 := s15.trans s16
      have nb16 := nb14.still s1416
      refine .inl ⟨_, rfl, wantK (fun ht => ?_) (fun ht => ⟨nb16.only, ?_⟩)⟩
      rotate_left
      · rw [if_neg (by rw [ht]; decide)]
        rfl
      rw [if_pos ht, Rs.ok_and]
      refine (lines_spec (h14.still s1416)).mono ?_
      rintro _ w17 ⟨rfl, o17, h17⟩
      have hll := linesF_le z.2
      refine .inl ⟨rfl, ⟨linesF z.2, ks ++ [z.1], vk13, X13, nb16.on o17, (res14.still s1416).mod o17 (by omega), h17, (linesF_suf _).trans (hz2.trans hsf9), by simp only [List.length_append, List.length_cons, List.length_nil]; omega, rfl⟩, by rw [h17.len, h11.len]; omega⟩
  · have hx : isT 0 tEsac s9 = true := by simpa using hx
    rw [if_pos hx] at h12
    have hst : caseS (lvS L).1 y.1 ks s9 = .ok (.inr (.mk 9 false [] [y.1] [] [] [] ks, s9.tail)) := by unfold caseS; rw [if_pos hx]
    rw [hst, Rs.ok_and]
    exact nExit_spec5 nb12 res12 (Nat.lt_succ_self _) fun w' cs' m' o' hn' h5' => ⟨o', _, rfl, hn', h12.mod m' (fun j hj e => by omega), h5'⟩
end Go.Proofs.YtcoeiiihmpnagaaDoor
