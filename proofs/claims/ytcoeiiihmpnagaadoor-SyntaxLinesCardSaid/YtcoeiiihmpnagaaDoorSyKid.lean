/- The program's parser of scripts: a call whose answer is put behind a node's list. Conditions: as each theorem names them. -/
import Derived.Test.YtcoeiiihmpnagaaDoorSyPart
namespace Go.Proofs.YtcoeiiihmpnagaaDoor
open Go.RowKit Vc
variable {w : World}

/-- A node is read so. -/
def SyP (w : World) (g : Nat) (r : Rs (Nd × Ts)) (e : Ending) (w' : World) : Prop := Only g w w' ∧ match r with
  | .ok x => ∃ cs, e = .returned (.agg ⟨cs⟩) ∧ NdE w' (fun k => w.heap.size ≤ k ∧ k < w'.heap.size) x.1 cs ∧ Pz w' g x.2
  | .bad k => e = .panicked (errP k)
def kidK (f : FuncId) (args : Array Value) (gn : Nat) (w1 : World) (K : World → Prop) (R : Ending → World → Prop) : Prop :=
  ∃ Sw : World → Prop, Sw w1.drew ∧ ∃ (v : Option Addr) (vL vC : Nat), (∀ wq : World, Sw wq → wq.cell? (Addr.mk gn 7 none) = some (.slice v vL vC)) ∧ Calls Tryd.prog f args w1.drew (fun ed w5 => (∃ rKind : Int, ∃ rNot : Bool, ∃ rName : List UInt8, ∃ (rWords : Option Addr) (rWordsL rWordsC : Nat), ∃ (rAssigns : Option Addr) (rAssignsL rAssignsC : Nat), ∃ (rRedirs : Option Addr) (rRedirsL rRedirsC : Nat), ∃ (rOps : Option Addr) (rOpsL rOpsC : Nat), ∃ (rKids : Option Addr) (rKidsL rKidsC : Nat), ed = .returned (.agg #[(.int .i64 rKind), (.bool rNot), (.string (S rName)), (.slice rWords rWordsL rWordsC), (.slice rAssigns rAssignsL rAssignsC), (.slice rRedirs rRedirsL rRedirsC), (.slice rOps rOpsL rOpsC), (.slice rKids rKidsL rKidsC)]) ∧ Sw w5 ∧ letW (w5.alloc (.cells #[(.int .i64 rKind), (.bool rNot), (.string (S rName)), (.slice rWords rWordsL rWordsC), (.slice rAssigns rAssignsL rAssignsC), (.slice rRedirs rRedirsL rRedirsC), (.slice rOps rOpsL rOpsC), (.slice rKids rKidsL rKidsC)] 32)) (fun (w6 : World) => Sw w6 ∧ appK w6 32 8 152 v vL vC (some (Addr.mk w5.heap.size 0 none)) 1 (fun (p1 : Option Addr) (cp : Nat) (w7 : World) => stCells (Addr.mk gn 7 none) K 0 [(.slice p1 (vL + 1) cp)] w7))) ∨ (∃ ch, ed = .panicked ch ∧ R (.panicked ch) w5))
theorem kidK_spec {w0 w1 : World} {g gn B : Nat} {X : Nat → Prop} {x : Nd} {vw va vr vo vk : Value} (nb : NB w0 w1 g gn B X x vw va vr vo vk) {f : FuncId} {args : Array Value} {r : Rs (Nd × Ts)} (hcall : Calls Tryd.prog f args w1.drew (SyP w1.drew g r)) (hn : x.ks.length < 1000000) {K : World → Prop} {R : Ending → World → Prop}
    (hbad : ∀ k w', r = .bad k → Only g w0 w' → R (.panicked (errP k)) w') (hok : ∀ y vk' w' X', r = .ok y → NB w0 w' g gn B X' (x.addK y.1) vw va vr vo vk' → Pz w' g y.2 → Mod (fun k => k = g ∨ B ≤ k) w1 w' → K w') : kidK f args gn w1 K R := by
  obtain ⟨p, c, rfl⟩ := nb.ok.form
  have nb' := nb.still (drew_still w1)
  refine ⟨fun wq => wq.cell? (Addr.mk gn 7 none) = some (.slice p x.ks.length c), nb'.row.lget rfl, p, x.ks.length, c, fun _ h => h, ?_⟩
  refine (hcall).mono ?_
  rintro e5 w5 ⟨o5, hp⟩
  have nb5 := nb'.on o5
  cases hr : r with
  | bad k =>
    rw [hr] at hp
    exact .inr ⟨_, hp, hbad k w5 hr nb5.only⟩
  | ok y =>
    rw [hr] at hp
    obtain ⟨cs, rfl, hnd, h5⟩ := hp
    obtain ⟨pw, cw, pa, ca, pr, cr, po, co, pk, ck, rfl, _⟩ := hnd.outs
    refine .inl ⟨_, _, _, _, _, _, _, _, _, _, _, _, _, _, _, _, _, _, rfl, nb5.row.lget rfl, NB.addK (x := x) (y := y.1) nb' o5 hnd hn fun p' c' w' X' nb6 hm => ?_⟩
    have hB := nb.hB
    have hg := nb.hg
    exact hok y _ w' X' hr nb6 (h5.mod hm fun k hk hb => by omega) (Mod.trans (Mod.trans ((drew_still w1).weaken fun _ h => h.elim) o5 (fun _ h => h) (fun _ _ h => .inl h)) hm (fun _ h => h) (fun _ _ h => .inr h))
def wordK (g gn : Nat) (w1 : World) (K : World → Prop) (R : Ending → World → Prop) : Prop :=
  ∃ Sw : World → Prop, Sw w1.drew ∧ ∃ (v : Option Addr) (vL vC : Nat), (∀ wq : World, Sw wq → wq.cell? (Addr.mk gn 3 none) = some (.slice v vL vC)) ∧ Calls Tryd.prog fn_syntax_parser_parts #[.pointer (some ⟨g, 0, none⟩)] w1.drew (fun ed w5 => (∃ (r : Option Addr) (rL rC : Nat), ed = .returned (.slice r rL rC) ∧ Sw w5 ∧ letW (w5.alloc (.cells #[(.slice r rL rC)] 49)) (fun (w6 : World) => Sw w6 ∧ appK w6 49 1 24 v vL vC (some (Addr.mk w5.heap.size 0 none)) 1 (fun (p1 : Option Addr) (cp : Nat) (w7 : World) => stCells (Addr.mk gn 3 none) K 0 [(.slice p1 (vL + 1) cp)] w7))) ∨ (∃ ch, ed = .panicked ch ∧ R (.panicked ch) w5))
theorem wordK_spec {w0 w1 : World} {g gn B : Nat} {X : Nat → Prop} {x : Nd} {vw va vr vo vk : Value} (nb : NB w0 w1 g gn B X x vw va vr vo vk) {s : Ts} (hz : Pz w1 g s) (hb : TB s) (hn : x.ws.length < 1000000) {K : World → Prop} {R : Ending → World → Prop}
    (hbad : ∀ k w', partsF s = .bad k → Only g w0 w' → R (.panicked (errP k)) w') (hok : ∀ y vw' w' X', partsF s = .ok y → NB w0 w' g gn B X' (x.addW y.1) vw' va vr vo vk → Pz w' g y.2 → Mod (fun k => k = g ∨ B ≤ k) w1 w' → K w') : wordK g gn w1 K R := by
  obtain ⟨p, c, rfl⟩ := nb.ow.form
  have nb' := nb.still (drew_still w1)
  refine ⟨fun wq => wq.cell? (Addr.mk gn 3 none) = some (.slice p x.ws.length c), nb'.row.lget rfl, p, x.ws.length, c, fun _ h => h, ?_⟩
  refine (parts_spec (hz.still (drew_still w1)) hb).mono ?_
  rintro e5 w5 ⟨o5, hp⟩
  have nb5 := nb'.on o5
  cases hr : partsF s with
  | bad k =>
    rw [hr] at hp
    exact .inr ⟨_, hp, hbad k w5 hr nb5.only⟩
  | ok y =>
    rw [hr] at hp
    obtain ⟨v, rfl, hsl, h5⟩ := hp
    obtain ⟨q, d, rfl⟩ := hsl.form
    refine .inl ⟨_, _, _, rfl, nb5.row.lget rfl, NB.addW (x := x) (y := y.1) nb' o5 ⟨_, rfl, hsl⟩ hn fun p' c' w' X' nb6 hm => ?_⟩
    have hB := nb.hB
    have hg := nb.hg
    exact hok y _ w' X' hr nb6 (h5.mod hm fun k hk hb => by omega) (Mod.trans (Mod.trans ((drew_still w1).weaken fun _ h => h.elim) o5 (fun _ h => h) (fun _ _ h => .inl h)) hm (fun _ h => h) (fun _ _ h => .inr h))
def redK (g gn : Nat) (w1 : World) (K : World → Prop) (R : Ending → World → Prop) : Prop :=
  ∃ Sw : World → Prop, Sw w1.drew ∧ ∃ (v : Option Addr) (vL vC : Nat), (∀ wq : World, Sw wq → wq.cell? (Addr.mk gn 5 none) = some (.slice v vL vC)) ∧ Calls Tryd.prog fn_syntax_parser_redir #[.pointer (some ⟨g, 0, none⟩)] w1.drew (fun ed w5 => (∃ rOp : List UInt8, ∃ (rWord : Option Addr) (rWordL rWordC : Nat), ed = .returned (.agg #[(.string (S rOp)), (.slice rWord rWordL rWordC)]) ∧ Sw w5 ∧ letW (w5.alloc (.cells #[(.string (S rOp)), (.slice rWord rWordL rWordC)] 54)) (fun (w6 : World) => Sw w6 ∧ appK w6 54 2 40 v vL vC (some (Addr.mk w5.heap.size 0 none)) 1 (fun (p1 : Option Addr) (cp : Nat) (w7 : World) => stCells (Addr.mk gn 5 none) K 0 [(.slice p1 (vL + 1) cp)] w7))) ∨ (∃ ch, ed = .panicked ch ∧ R (.panicked ch) w5))
theorem redK_spec {w0 w1 : World} {g gn B : Nat} {X : Nat → Prop} {x : Nd} {vw va vr vo vk : Value} (nb : NB w0 w1 g gn B X x vw va vr vo vk) {s : Ts} (hz : Pz w1 g s) (hb : TB s) (hs : s ≠ []) (hn : x.rs.length < 1000000) {K : World → Prop} {R : Ending → World → Prop}
    (hbad : ∀ k w', redirF s = .bad k → Only g w0 w' → R (.panicked (errP k)) w') (hok : ∀ y vr' w' X', redirF s = .ok y → NB w0 w' g gn B X' (x.addR y.1) vw va vr' vo vk → Pz w' g y.2 → Mod (fun k => k = g ∨ B ≤ k) w1 w' → K w') : redK g gn w1 K R := by
  obtain ⟨p, c, rfl⟩ := nb.ord.form
  have nb' := nb.still (drew_still w1)
  refine ⟨fun wq => wq.cell? (Addr.mk gn 5 none) = some (.slice p x.rs.length c), nb'.row.lget rfl, p, x.rs.length, c, fun _ h => h, ?_⟩
  refine (redir_spec (hz.still (drew_still w1)) hb hs).mono ?_
  rintro e5 w5 ⟨o5, hp⟩
  have nb5 := nb'.on o5
  cases hr : redirF s with
  | bad k =>
    rw [hr] at hp
    exact .inr ⟨_, hp, hbad k w5 hr nb5.only⟩
  | ok y =>
    rw [hr] at hp
    obtain ⟨v, rfl, hsl, h5⟩ := hp
    obtain ⟨q, d, rfl⟩ := hsl.form
    refine .inl ⟨_, _, _, _, rfl, nb5.row.lget rfl, NB.addR (x := x) (y := y.1) nb' o5 ⟨_, rfl, hsl⟩ hn fun p' c' w' X' nb6 hm => ?_⟩
    have hB := nb.hB
    have hg := nb.hg
    exact hok y _ w' X' hr nb6 (h5.mod hm fun k hk hb => by omega) (Mod.trans (Mod.trans ((drew_still w1).weaken fun _ h => h.elim) o5 (fun _ h => h) (fun _ _ h => .inl h)) hm (fun _ h => h) (fun _ _ h => .inr h))
end Go.Proofs.YtcoeiiihmpnagaaDoor
