/- The reference's comparison of parts, and how much there is of them. Conditions: the parts hold fewer than a million bytes. -/
import Derived.Test.YtckcdbkggaoomaaDoorWdRec
namespace Go.Proofs.YtckcdbkggaoomaaDoor
open Go.RowKit Vc
variable {w : World}

/-- Two parts in boxes, compared. -/
def SameBody (gx gy : Nat) (w5 : World) (R : Ending → World → Prop) (K : World → Prop) : Prop :=
  ∃ v : Int, w5.cell? (Addr.mk gx 0 none) = some (.int .i64 v) ∧ ∃ v1 : Int, w5.cell? (Addr.mk gy 0 none) = some (.int .i64 v1) ∧ bsel (!decide (v = v1)) (R (.returned (.bool false)) w5) (∃ v2 : Bool, w5.cell? (Addr.mk gx 1 none) = some (.bool v2) ∧ ∃ v3 : Bool, w5.cell? (Addr.mk gy 1 none) = some (.bool v3) ∧ bsel (!(decide (v2 = v3))) (R (.returned (.bool false)) w5) (∃ v4 : List UInt8, w5.cell? (Addr.mk gx 2 none) = some (.string (S v4)) ∧ ∃ v5 : List UInt8, w5.cell? (Addr.mk gy 2 none) = some (.string (S v5)) ∧ bsel (!(decide (v4 = v5))) (R (.returned (.bool false)) w5) (∃ v6 : List UInt8, w5.cell? (Addr.mk gx 3 none) = some (.string (S v6)) ∧ ∃ v7 : List UInt8, w5.cell? (Addr.mk gy 3 none) = some (.string (S v7)) ∧ bsel (!(decide (v6 = v7))) (R (.returned (.bool false)) w5) (∃ v8 : List UInt8, w5.cell? (Addr.mk gx 4 none) = some (.string (S v8)) ∧ ∃ v9 : List UInt8, w5.cell? (Addr.mk gy 4 none) = some (.string (S v9)) ∧ bsel (!(decide (v8 = v9))) (R (.returned (.bool false)) w5) (∃ (v10 : Option Addr) (vL vC : Nat), w5.cell? (Addr.mk gx 5 none) = some (.slice v10 vL vC) ∧ ∃ (v11 : Option Addr) (vL1 vC1 : Nat), w5.cell? (Addr.mk gy 5 none) = some (.slice v11 vL1 vC1) ∧ Calls Tryd.prog fn_ref08_Same #[(.slice v10 vL vC), (.slice v11 vL1 vC1)] w5 (fun ed w6 => (∃ r : Bool, ed = .returned (.bool r) ∧ bsel (!r) (R (.returned (.bool false)) w6) (K w6)) ∨ (∃ ch, ed = .panicked ch ∧ R (.panicked ch) w6)))))))
theorem sameBody_spec {w5 : World} {gx gy : Nat} {x y : Pt} {xp yp : Option Addr} {xc yc : Nat} {R : Ending → World → Prop} {K : World → Prop} (rx : Row w5 gx 39 ⟨pcell x (.slice xp x.w.length xc)⟩) (ry : Row w5 gy 39 ⟨pcell y (.slice yp y.w.length yc)⟩)
    (ih : Calls Tryd.prog fn_ref08_Same #[.slice xp x.w.length xc, .slice yp y.w.length yc] w5 (fun e w' => (∃ b : Bool, e = .returned (.bool b) ∧ (b = true ↔ x.w = y.w)) ∧ Still w5 w'))
    (hno : x ≠ y → ∀ w', Still w5 w' → R (.returned (.bool false)) w') (hyes : x = y → ∀ w', Still w5 w' → K w') : SameBody gx gy w5 R K := by
  have ne : ∀ {α : Type} (f : Pt → α), f x ≠ f y → R (.returned (.bool false)) w5 := fun f h => hno (fun e => h (by rw [e])) _ (Still.refl _)
  refine ⟨_, rx.lget rfl, _, ry.lget rfl, bsel_of (fun h => ne Pt.k (nt h)) (fun h1 => ⟨_, rx.lget rfl, _, ry.lget rfl, bsel_of (fun h => ne Pt.q (nt h)) (fun h2 => ⟨_, rx.lget rfl, _, ry.lget rfl, bsel_of (fun h => ne Pt.t (nt h)) (fun h3 => ⟨_, rx.lget rfl, _, ry.lget rfl, bsel_of (fun h => ne Pt.n (nt h)) (fun h4 => ⟨_, rx.lget rfl, _, ry.lget rfl, bsel_of (fun h => ne Pt.o (nt h)) (fun h5 => ⟨_, _, _, rx.lget rfl, _, _, _, ry.lget rfl, ih.mono ?_⟩)⟩)⟩)⟩)⟩)⟩
  rintro _ w6 ⟨⟨b, rfl, hb⟩, s6⟩
  have h1 : x.k = y.k := nf h1
  have h2 : x.q = y.q := nf h2
  have h3 : x.t = y.t := nf h3
  have h4 : x.n = y.n := nf h4
  have h5 : x.o = y.o := nf h5
  refine .inl ⟨b, rfl, bsel_of (fun h => ?_) (fun h => ?_)⟩
  · have h : b = false := by simpa using h
    exact hno (fun e => by rw [e] at hb; rw [hb.2 rfl] at h; cases h) _ s6
  · have h : b = true := by simpa using h
    have hw := hb.1 h
    refine hyes ?_ _ s6
    cases x
    cases y
    simp only [Pt.k, Pt.q, Pt.t, Pt.n, Pt.o, Pt.w] at h1 h2 h3 h4 h5 hw
    rw [h1, h2, h3, h4, h5, hw]
theorem same_of : ∀ (n : Nat) (la : List Pt), SizeOf.sizeOf la < n → wtL la < 500000000 → ∀ (lb : List Pt) (w : World) (F G : Nat → Prop) (u v : Value), SlAt w F la u → SlAt w G lb v →
    Calls Tryd.prog fn_ref08_Same #[u, v] w (fun e w' => (∃ b : Bool, e = .returned (.bool b) ∧ (b = true ↔ la = lb)) ∧ Still w w') := by
  intro n
  induction n with
  | zero => intro l h; omega
  | succ n ih =>
    intro la hn hl lb w F G u v hu hv
    obtain ⟨pa, ca, rfl⟩ := hu.form
    obtain ⟨pb, cb, rfl⟩ := hv.form
    have hwl := wtL_len la
    refine ref08_Same_calls _ _ _ _ _ _ _ _ ?_
    refine bsel_of (fun hne => ?_) (fun he => ?_)
    · have hne : ¬ ((la.length : Int) = (lb.length : Int)) := nt hne
      refine ⟨⟨_, rfl, fun h => (by cases h), fun h => ?_⟩, Still.refl _⟩
      rw [h] at hne
      exact absurd rfl hne
    have he : (la.length : Int) = (lb.length : Int) := nf he
    have hlen : lb.length = la.length := by omega
    refine ⟨fun i w1 => ∃ k : Nat, i = (k : Int) ∧ k ≤ la.length ∧ la.take k = lb.take k ∧ Still w w1, fun i _ => la.length - i.toNat, ⟨0, rfl, Nat.zero_le _, rfl, Still.refl _⟩, ?_⟩
    rintro _ _ w1 ⟨k, rfl, hk, hp, hs1⟩
    refine bsel_of (fun hx => ?_) (fun hx => ?_)
    rotate_left
    · have hx : k = la.length := by have := of_decide_eq_false hx; omega
      rw [hx, List.take_length, List.take_of_length_le (by omega)] at hp
      exact ⟨⟨_, rfl, fun _ => hp, fun _ => rfl⟩, hs1⟩
    have hx : k < la.length := by have := of_decide_eq_true hx; omega
    have hy : k < lb.length := by omega
    obtain ⟨ba, xp, xc, rfl, a0, a1, a2, a3, a4, a5, hsx⟩ := (hu.still hs1).fields hx
    obtain ⟨bb, yp, yc, rfl, b0, b1, b2, b3, b4, b5, hsy⟩ := (hv.still hs1).fields hy
    rw [Int.toNat_natCast]
    have e1 : IntKind.i64.wrap ((k : Int) + 1) = ((k + 1 : Nat) : Int) := by rw [wrap_i64 (by omega) (by omega)]; omega
    have body : ∀ (gx gy : Nat) (w5 : World), Row w5 gx 39 ⟨pcell la[k] (.slice xp la[k].w.length xc)⟩ → Row w5 gy 39 ⟨pcell lb[k] (.slice yp lb[k].w.length yc)⟩ → Still w1 w5 →
        SameBody gx gy w5 (fun e w' => (∃ b : Bool, e = .returned (.bool b) ∧ (b = true ↔ la = lb)) ∧ Still w w') (fun w6 => (∃ k' : Nat, IntKind.i64.wrap ((k : Int) + 1) = (k' : Int) ∧ k' ≤ la.length ∧ la.take k' = lb.take k' ∧ Still w w6) ∧ la.length - (IntKind.i64.wrap ((k : Int) + 1)).toNat < la.length - ((k : Int)).toNat) := by
      intro gx gy w5 rx ry s5
      refine sameBody_spec rx ry (ih _ (by have := word_of hx; omega) (by have := wt_word hx; omega) _ w5 F G _ _ (hsx.still s5) (hsy.still s5)) (fun hne w' s' => ⟨⟨_, rfl, fun h => (by cases h), fun h => ?_⟩, (hs1.trans s5).trans s'⟩) (fun heq w' s' => ⟨⟨k + 1, e1, hx, ?_, (hs1.trans s5).trans s'⟩, by rw [e1]; omega⟩)
      · subst h
        exact absurd rfl hne
      · rw [take_one hx, take_one hy, hp, heq]
    have z0 : w1.drew.heap.size = w1.heap.size := rfl
    refine ⟨fun wq => Still w1 wq, drew_still w1, by omega, by omega, _, _, _, _, _, _, _, _, fun wq hq => hq.cell a0, fun wq hq => hq.cell a1, fun wq hq => hq.cell a2, fun wq hq => hq.cell a3, fun wq hq => hq.cell a4, fun wq hq => hq.cell a5, by omega, by omega, _, _, _, _, _, _, _, _, fun wq hq => hq.cell b0, fun wq hq => hq.cell b1, fun wq hq => hq.cell b2, fun wq hq => hq.cell b3, fun wq hq => hq.cell b4, fun wq hq => hq.cell b5, ?_, ?_⟩
    · refine allocK fun w2 r2 s2 z2 => ⟨(drew_still w1).trans s2, allocK fun w3 r3 s3 z3 => ⟨((drew_still w1).trans s2).trans s3, ?_⟩⟩
      have s13 := ((drew_still w1).trans s2).trans s3
      refine stK (r2.still s3) (by simp) one6 fun w4 r4 m4 z4 => ?_
      have s14 : Still w1 w4 := s13.box (by omega) m4
      refine ⟨s14, stK (r3.mod m4 (by omega)) (by simp) one6 fun w5 r5 m5 z5 => body _ _ w5 (r4.mod m5 (by omega)) r5 (s14.box (by omega) m5)⟩
    · refine allocK fun w2 r2 s2 z2 => ⟨(drew_still w1).trans s2, allocK fun w3 r3 s3 z3 => ⟨((drew_still w1).trans s2).trans s3, ?_⟩⟩
      have s13 := ((drew_still w1).trans s2).trans s3
      refine stK r3 (by simp) one6 fun w4 r4 m4 z4 => ?_
      have s14 : Still w1 w4 := s13.box (by omega) m4
      refine ⟨s14, stK ((r2.still s3).mod m4 (by omega)) (by simp) one6 fun w5 r5 m5 z5 => body _ _ w5 (r4.mod m5 (by omega)) r5 (s14.box (by omega) m5)⟩
theorem Same_spec {F G : Nat → Prop} {la lb : List Pt} {u v : Value} (hu : SlAt w F la u) (hv : SlAt w G lb v) (hl : wtL la < 500000000) :
    Calls Tryd.prog fn_ref08_Same #[u, v] w (fun e w' => (∃ b : Bool, e = .returned (.bool b) ∧ (b = true ↔ la = lb)) ∧ Still w w') := same_of _ la (Nat.lt_succ_self _) hl lb w F G u v hu hv
end Go.Proofs.YtckcdbkggaoomaaDoor
