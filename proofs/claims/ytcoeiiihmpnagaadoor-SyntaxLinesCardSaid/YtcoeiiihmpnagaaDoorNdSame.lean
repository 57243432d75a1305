/- The reference's comparison of scripts' nodes. Conditions: the first node holds fewer than 500 million. -/
import Derived.Test.YtcoeiiihmpnagaaDoorSyTok
import Derived.Test.YtcoeiiihmpnagaaDoorM2
import Derived.Test.YtcoeiiihmpnagaaDoorM4
namespace Go.Proofs.YtcoeiiihmpnagaaDoor
open Go.RowKit Vc
variable {w : World}

theorem sameWords_spec {F G : Nat → Prop} {la lb : List (List Pt)} {p q : Option Addr} {n m c d : Nat} (hu : wsE.At w F la (.slice p n c)) (hv : wsE.At w G lb (.slice q m d)) (hl : wtW la < 500000000) :
    Calls Tryd.prog fn_ref09_sameWords #[.slice p n c, .slice q m d] w (fun e w' => (∃ b : Bool, e = .returned (.bool b) ∧ (b = true ↔ la = lb)) ∧ Still w w') := by
  obtain ⟨rfl, hlc⟩ := hu.len
  obtain ⟨rfl, _⟩ := hv.len
  have hwl := wtW_len la
  refine ref09_sameWords_calls _ _ _ _ _ _ _ _ ?_
  refine bsel_of (fun hne => ?_) (fun he => ?_)
  · have hne : ¬ ((la.length : Int) = (lb.length : Int)) := nt hne
    refine ⟨⟨_, rfl, fun h => (by cases h), fun h => ?_⟩, Still.refl _⟩
    rw [h] at hne
    exact absurd rfl hne
  have he : (la.length : Int) = (lb.length : Int) := nf he
  have hlen : lb.length = la.length := by omega
  refine ⟨fun i w1 => ∃ k : Nat, i = (k : Int) ∧ k ≤ la.length ∧ la.take k = lb.take k ∧ Still w w1, fun i _ => la.length - i.toNat, ⟨0, rfl, Nat.zero_le _, rfl, Still.refl _⟩, ?_⟩
  rintro _ _ w1 ⟨k, rfl, hk, hp, hs1⟩
  refine bsel_of (fun hx => ?_) (fun hx => ?_)
  rotate_left
  · have hx : k = la.length := by have := of_decide_eq_false hx; omega
    rw [hx, List.take_length, List.take_of_length_le (by omega)] at hp
    exact ⟨⟨_, rfl, fun _ => hp, fun _ => rfl⟩, hs1⟩
  have hx : k < la.length := by have := of_decide_eq_true hx; omega
  have hy : k < lb.length := by omega
  obtain ⟨ba, cs, rfl, _, ⟨va, rfl, hsa⟩, hca⟩ := (hu.still hs1).get (List.getElem?_eq_getElem hx)
  obtain ⟨bb, ds, rfl, _, ⟨vb, rfl, hsb⟩, hcb⟩ := (hv.still hs1).get (List.getElem?_eq_getElem hy)
  obtain ⟨pa, ca, rfl⟩ := hsa.form
  obtain ⟨pb, cb, rfl⟩ := hsb.form
  have hm := wtW_mem (List.getElem_mem hx)
  have e1 : IntKind.i64.wrap ((k : Int) + 1) = ((k + 1 : Nat) : Int) := by rw [wrap_i64 (by omega) (by omega)]; omega
  refine ⟨fun wq => Still w1 wq, drew_still w1, by omega, by omega, _, _, _, fun wq hq => hq.cell hca.zero, by omega, by omega, _, _, _, fun wq hq => hq.cell hcb.zero, (Same_spec (hsa.still (drew_still w1)) (hsb.still (drew_still w1)) (by omega)).mono ?_⟩
  rintro _ w2 ⟨⟨b, rfl, hb⟩, s2⟩
  have s02 := (hs1.trans (drew_still w1)).trans s2
  refine .inl ⟨b, rfl, bsel_of (fun h => ⟨⟨_, rfl, fun h => (by cases h), fun e => ?_⟩, s02⟩) (fun h => ?_)⟩
  · subst e
    have h : b = false := by simpa using h
    rw [hb.2 rfl] at h
    cases h
  · have h : b = true := by simpa using h
    refine ⟨⟨k + 1, e1, hx, ?_, s02⟩, by rw [e1]; dsimp only; omega⟩
    rw [take_one hx, take_one hy, hp, hb.1 h]
theorem sameN_of : ∀ (n : Nat) (x : Nd), x.wt < n → x.wt < 500000000 → ∀ (y : Nd) (w : World) (F G : Nat → Prop) (cs ds : List Value), NdE w F x cs → NdE w G y ds →
    Calls Tryd.prog fn_ref09_Same #[.agg ⟨cs⟩, .agg ⟨ds⟩] w (fun e w' => (∃ b : Bool, e = .returned (.bool b) ∧ (b = true ↔ x = y)) ∧ Still w w') := by
  intro n
  induction n with
  | zero => intro x h; omega
  | succ n ih =>
    intro x hn hl y w F G cs ds hx hy
    have hwt := x.wt_eq
    have hwl := wtP_len x.as
    have hwr := wtP_len x.rs
    have hwo := wtO_len x.os
    have hwk := wtNs_len x.ks
    obtain ⟨pw, cw, pa, ca, pr, cr, po, co, pk, ck, rfl, xw, xa, xr, xo, xk⟩ := hx.outs
    obtain ⟨qw, dw, qa, da, qr, dr, qo, d_o, qk, dk, rfl, yw, ya, yr, yo, yk⟩ := hy.outs
    clear hx hy
    refine ref09_Same_calls _ _ _ _ _ _ _ _ _ _ _ _ _ _ _ _ _ _ _ _ _ _ _ _ _ _ _ _ _ _ _ _ _ _ _ _ _ _ ?_
    have no : x ≠ y → ∀ w', Still w w' → (∃ b : Bool, Ending.returned (.bool false) = .returned (.bool b) ∧ (b = true ↔ x = y)) ∧ Still w w' := fun h w' s => ⟨⟨false, rfl, (fun e => by cases e), fun e => absurd e h⟩, s⟩
    refine allocK fun w1 r1 s1 z1 => allocK fun w2 r2 s2 z2 => ?_
    have s02 := s1.trans s2
    have r1 := r1.still s2
    refine ⟨_, r1.lget rfl, _, r2.lget rfl, bsel_of (fun h => no (fun e => nt h (congrArg Nd.k e)) _ s02) (fun h1 => ?_)⟩
    refine ⟨_, r1.lget rfl, _, r2.lget rfl, bsel_of (fun h => no (fun e => nt h (congrArg Nd.neg e)) _ s02) (fun h2 => ?_)⟩
    refine ⟨_, r1.lget rfl, _, r2.lget rfl, bsel_of (fun h => no (fun e => nt h (congrArg Nd.nm e)) _ s02) (fun h3 => ?_)⟩
    have h1 : x.k = y.k := nf h1
    have h2 : x.neg = y.neg := nf h2
    have h3 : x.nm = y.nm := nf h3
    refine ⟨_, _, _, r1.lget rfl, _, _, _, r2.lget rfl, (sameWords_spec (xw.still s02) (yw.still s02) (by omega)).mono ?_⟩
    rintro _ w3 ⟨⟨b, rfl, hb⟩, s3⟩
    have s03 := s02.trans s3
    have r1 := r1.still s3
    have r2 := r2.still s3
    refine .inl ⟨b, rfl, bsel_of (fun h => no (fun e => ?_) _ s03) (fun h => ?_)⟩
    · have h : b = false := by simpa using h
      rw [hb.2 (congrArg Nd.ws e)] at h
      cases h
    have h4 : x.ws = y.ws := hb.1 (by simpa using h)
    clear h hb b
    have len : ∀ {a b : Nat}, (!decide ((a : Int) = (b : Int))) = true → ¬ a = b := fun h e => nt h (by rw [e])
    have len' : ∀ {a b : Nat}, (!decide ((a : Int) = (b : Int))) = false → b = a := fun h => by have := nf h; omega
    refine ⟨_, _, _, r1.lget rfl, _, _, _, r2.lget rfl, bsel_of (fun h => no (fun e => len h (congrArg (fun z : Nd => z.as.length) e)) _ s03) (fun l5 => ?_)⟩
    refine ⟨_, _, _, r1.lget rfl, _, _, _, r2.lget rfl, bsel_of (fun h => no (fun e => len h (congrArg (fun z : Nd => z.rs.length) e)) _ s03) (fun l6 => ?_)⟩
    refine ⟨_, _, _, r1.lget rfl, _, _, _, r2.lget rfl, bsel_of (fun h => no (fun e => len h (congrArg (fun z : Nd => z.os.length) e)) _ s03) (fun l7 => ?_)⟩
    refine ⟨_, _, _, r1.lget rfl, _, _, _, r2.lget rfl, bsel_of (fun h => no (fun e => len h (congrArg (fun z : Nd => z.ks.length) e)) _ s03) (fun l8 => ?_)⟩
    have l5 := len' l5
    have l6 := len' l6
    have l7 := len' l7
    have l8 := len' l8
    refine ⟨fun i w4 => ∃ k : Nat, i = (k : Int) ∧ k ≤ x.as.length ∧ x.as.take k = y.as.take k ∧ Still w3 w4, fun i _ => x.as.length - i.toNat, ⟨0, rfl, Nat.zero_le _, rfl, Still.refl _⟩, ?_⟩
    rintro _ _ w4 ⟨k, rfl, hk, hp, s4⟩
    have s04 := s03.trans s4
    refine ⟨_, _, _, (r1.still s4).lget rfl, bsel_of (fun hx => ?_) (fun hx => ?_)⟩
    · have hx : k < x.as.length := by have := of_decide_eq_true hx; omega
      have hy : k < y.as.length := by omega
      obtain ⟨ba, cs, rfl, _, ⟨va, rfl, hsa⟩, hca⟩ := (xa.still s04).get (List.getElem?_eq_getElem hx)
      obtain ⟨bb, ds, rfl, _, ⟨vb, rfl, hsb⟩, hcb⟩ := (ya.still s04).get (List.getElem?_eq_getElem hy)
      obtain ⟨pa, ca, rfl⟩ := hsa.form
      obtain ⟨pb, cb, rfl⟩ := hsb.form
      have hm := wtP_mem (List.getElem_mem hx)
      have e1 : IntKind.i64.wrap ((k : Int) + 1) = ((k + 1 : Nat) : Int) := by rw [wrap_i64 (by omega) (by omega)]; omega
      have c1 : ∀ wq, Still w4 wq → wq.cell? (Addr.mk w.heap.size 4 none) = some (.slice (some ba) x.as.length _) := fun wq hq => ((r1.still s4).still hq).lget rfl
      have c2 : ∀ wq, Still w4 wq → wq.cell? (Addr.mk w1.heap.size 4 none) = some (.slice (some bb) y.as.length _) := fun wq hq => ((r2.still s4).still hq).lget rfl
      refine ⟨fun wq => Still w4 wq, drew_still w4, _, _, _, c1, by omega, by omega, _, fun wq hq => hq.cell hca.zero, _, _, _, c2, by omega, by omega, _, fun wq hq => hq.cell hcb.zero, bsel_of (fun h => no (fun e => nt h ?_) _ (s04.trans (drew_still w4))) (fun hnm => ?_)⟩
      · subst e
        rfl
      have hnm : (x.as[k]).1 = (y.as[k]).1 := nf hnm
      refine ⟨_, _, _, c1, by omega, by omega, _, _, _, fun wq hq => hq.cell (hca 1 _ rfl), _, _, _, c2, by omega, by omega, _, _, _, fun wq hq => hq.cell (hcb 1 _ rfl), (Same_spec (hsa.still (drew_still w4)) (hsb.still (drew_still w4)) (by omega)).mono ?_⟩
      rintro _ w5 ⟨⟨b, rfl, hb⟩, s5⟩
      have s45 := (drew_still w4).trans s5
      refine .inl ⟨b, rfl, bsel_of (fun h => no (fun e => ?_) _ (s04.trans s45)) (fun h => ?_)⟩
      · subst e
        have h : b = false := by simpa using h
        rw [hb.2 rfl] at h
        cases h
      · have h : b = true := by simpa using h
        refine ⟨⟨k + 1, e1, hx, ?_, s4.trans s45⟩, by rw [e1]; dsimp only; omega⟩
        rw [take_one hx, take_one hy, hp, Prod.ext hnm (hb.1 h)]
    have h5 : x.as = y.as := by
      have hx : k = x.as.length := by have := of_decide_eq_false hx; omega
      rwa [hx, List.take_length, List.take_of_length_le (by omega)] at hp
    clear hx hp hk k
    have r1 := r1.still s4
    have r2 := r2.still s4
    refine ⟨fun i w6 => ∃ k : Nat, i = (k : Int) ∧ k ≤ x.rs.length ∧ x.rs.take k = y.rs.take k ∧ Still w4 w6, fun i _ => x.rs.length - i.toNat, ⟨0, rfl, Nat.zero_le _, rfl, Still.refl _⟩, ?_⟩
    rintro _ _ w6 ⟨k, rfl, hk, hp, s6⟩
    have s06 := s04.trans s6
    refine ⟨_, _, _, (r1.still s6).lget rfl, bsel_of (fun hx => ?_) (fun hx => ?_)⟩
    · have hx : k < x.rs.length := by have := of_decide_eq_true hx; omega
      have hy : k < y.rs.length := by omega
      obtain ⟨ba, cs, rfl, _, ⟨va, rfl, hsa⟩, hca⟩ := (xr.still s06).get (List.getElem?_eq_getElem hx)
      obtain ⟨bb, ds, rfl, _, ⟨vb, rfl, hsb⟩, hcb⟩ := (yr.still s06).get (List.getElem?_eq_getElem hy)
      obtain ⟨pa, ca, rfl⟩ := hsa.form
      obtain ⟨pb, cb, rfl⟩ := hsb.form
      have hm := wtP_mem (List.getElem_mem hx)
      have e1 : IntKind.i64.wrap ((k : Int) + 1) = ((k + 1 : Nat) : Int) := by rw [wrap_i64 (by omega) (by omega)]; omega
      have c1 : ∀ wq, Still w6 wq → wq.cell? (Addr.mk w.heap.size 5 none) = some (.slice (some ba) x.rs.length _) := fun wq hq => ((r1.still s6).still hq).lget rfl
      have c2 : ∀ wq, Still w6 wq → wq.cell? (Addr.mk w1.heap.size 5 none) = some (.slice (some bb) y.rs.length _) := fun wq hq => ((r2.still s6).still hq).lget rfl
      refine ⟨fun wq => Still w6 wq, drew_still w6, _, _, _, c1, by omega, by omega, _, fun wq hq => hq.cell hca.zero, _, _, _, c2, by omega, by omega, _, fun wq hq => hq.cell hcb.zero, bsel_of (fun h => no (fun e => nt h ?_) _ (s06.trans (drew_still w6))) (fun hnm => ?_)⟩
      · subst e
        rfl
      have hnm : (x.rs[k]).1 = (y.rs[k]).1 := nf hnm
      refine ⟨_, _, _, c1, by omega, by omega, _, _, _, fun wq hq => hq.cell (hca 1 _ rfl), _, _, _, c2, by omega, by omega, _, _, _, fun wq hq => hq.cell (hcb 1 _ rfl), (Same_spec (hsa.still (drew_still w6)) (hsb.still (drew_still w6)) (by omega)).mono ?_⟩
      rintro _ w5 ⟨⟨b, rfl, hb⟩, s5⟩
      have s45 := (drew_still w6).trans s5
      refine .inl ⟨b, rfl, bsel_of (fun h => no (fun e => ?_) _ (s06.trans s45)) (fun h => ?_)⟩
      · subst e
        have h : b = false := by simpa using h
        rw [hb.2 rfl] at h
        cases h
      · have h : b = true := by simpa using h
        refine ⟨⟨k + 1, e1, hx, ?_, s6.trans s45⟩, by rw [e1]; dsimp only; omega⟩
        rw [take_one hx, take_one hy, hp, Prod.ext hnm (hb.1 h)]
    have h6 : x.rs = y.rs := by
      have hx : k = x.rs.length := by have := of_decide_eq_false hx; omega
      rwa [hx, List.take_length, List.take_of_length_le (by omega)] at hp
    clear hx hp hk k
    have r1 := r1.still s6
    have r2 := r2.still s6
    refine ⟨fun i w8 => ∃ k : Nat, i = (k : Int) ∧ k ≤ x.os.length ∧ x.os.take k = y.os.take k ∧ Still w6 w8, fun i _ => x.os.length - i.toNat, ⟨0, rfl, Nat.zero_le _, rfl, Still.refl _⟩, ?_⟩
    rintro _ _ w8 ⟨k, rfl, hk, hp, s8⟩
    have s08 := s06.trans s8
    have r1 := r1.still s8
    have r2 := r2.still s8
    refine ⟨_, _, _, r1.lget rfl, bsel_of (fun hx => ?_) (fun hx => ?_)⟩
    · have hx : k < x.os.length := by have := of_decide_eq_true hx; omega
      have hy : k < y.os.length := by omega
      obtain ⟨ba, cs, rfl, _, hEa, hca⟩ := (xo.still s08).get (List.getElem?_eq_getElem hx)
      obtain ⟨bb, ds, rfl, _, hEb, hcb⟩ := (yo.still s08).get (List.getElem?_eq_getElem hy)
      obtain rfl : cs = _ := hEa
      obtain rfl : ds = _ := hEb
      have e1 : IntKind.i64.wrap ((k : Int) + 1) = ((k + 1 : Nat) : Int) := by rw [wrap_i64 (by omega) (by omega)]; omega
      refine ⟨_, _, _, r1.lget rfl, by omega, by omega, _, hca.zero, _, _, _, r2.lget rfl, by omega, by omega, _, hcb.zero, bsel_of (fun h => no (fun e => nt h ?_) _ (s08.trans (drew_still w8))) (fun hnm => ?_)⟩
      · subst e
        rfl
      have hnm : x.os[k] = y.os[k] := nf hnm
      refine ⟨⟨k + 1, e1, hx, ?_, s8.trans (drew_still w8)⟩, by rw [e1]; dsimp only; omega⟩
      rw [take_one hx, take_one hy, hp, hnm]
    have h7 : x.os = y.os := by
      have hx : k = x.os.length := by have := of_decide_eq_false hx; omega
      rwa [hx, List.take_length, List.take_of_length_le (by omega)] at hp
    clear hx hp hk k
    refine ⟨fun i w9 => ∃ k : Nat, i = (k : Int) ∧ k ≤ x.ks.length ∧ x.ks.take k = y.ks.take k ∧ Still w8 w9, fun i _ => x.ks.length - i.toNat, ⟨0, rfl, Nat.zero_le _, rfl, Still.refl _⟩, ?_⟩
    rintro _ _ w9 ⟨k, rfl, hk, hp, s9⟩
    have s09 := s08.trans s9
    refine ⟨_, _, _, (r1.still s9).lget rfl, bsel_of (fun hx => ?_) (fun hx => ?_)⟩
    · have hx : k < x.ks.length := by have := of_decide_eq_true hx; omega
      have hy : k < y.ks.length := by omega
      obtain ⟨ba, cs, rfl, _, hEa, hca⟩ := (xk.still s09).get (List.getElem?_eq_getElem hx)
      obtain ⟨bb, ds, rfl, _, hEb, hcb⟩ := (yk.still s09).get (List.getElem?_eq_getElem hy)
      have hEa : NdE w9 F (x.ks[k]) cs := hEa
      have hEb : NdE w9 G (y.ks[k]) ds := hEb
      obtain ⟨_, _, _, _, _, _, _, _, _, _, rfl, _⟩ := hEa.outs
      obtain ⟨_, _, _, _, _, _, _, _, _, _, rfl, _⟩ := hEb.outs
      have hm := wtNs_mem (List.getElem_mem hx)
      have e1 : IntKind.i64.wrap ((k : Int) + 1) = ((k + 1 : Nat) : Int) := by rw [wrap_i64 (by omega) (by omega)]; omega
      have c1 : ∀ wq, Still w9 wq → wq.cell? (Addr.mk w.heap.size 7 none) = some (.slice (some ba) x.ks.length _) := fun wq hq => ((r1.still s9).still hq).lget rfl
      have c2 : ∀ wq, Still w9 wq → wq.cell? (Addr.mk w1.heap.size 7 none) = some (.slice (some bb) y.ks.length _) := fun wq hq => ((r2.still s9).still hq).lget rfl
      refine ⟨fun wq => Still w9 wq, drew_still w9, _, _, _, c1, by omega, by omega, _, _, _, _, _, _, _, _, _, _, _, _, _, _, _, _, _, _, fun wq hq => hq.cell hca.zero, fun wq hq => hq.cell (hca 1 _ rfl), fun wq hq => hq.cell (hca 2 _ rfl), fun wq hq => hq.cell (hca 3 _ rfl), fun wq hq => hq.cell (hca 4 _ rfl), fun wq hq => hq.cell (hca 5 _ rfl), fun wq hq => hq.cell (hca 6 _ rfl), fun wq hq => hq.cell (hca 7 _ rfl), _, _, _, c2, by omega, by omega,
        _, _, _, _, _, _, _, _, _, _, _, _, _, _, _, _, _, _, fun wq hq => hq.cell hcb.zero, fun wq hq => hq.cell (hcb 1 _ rfl), fun wq hq => hq.cell (hcb 2 _ rfl), fun wq hq => hq.cell (hcb 3 _ rfl), fun wq hq => hq.cell (hcb 4 _ rfl), fun wq hq => hq.cell (hcb 5 _ rfl), fun wq hq => hq.cell (hcb 6 _ rfl), fun wq hq => hq.cell (hcb 7 _ rfl), (ih _ (by omega) (by omega) _ w9.drew F G _ _ (hEa.still (drew_still w9)) (hEb.still (drew_still w9))).mono ?_⟩
      rintro _ w5 ⟨⟨b, rfl, hb⟩, s5⟩
      have s45 := (drew_still w9).trans s5
      refine .inl ⟨b, rfl, bsel_of (fun h => no (fun e => ?_) _ (s09.trans s45)) (fun h => ?_)⟩
      · subst e
        have h : b = false := by simpa using h
        rw [hb.2 rfl] at h
        cases h
      · have h : b = true := by simpa using h
        refine ⟨⟨k + 1, e1, hx, ?_, s9.trans s45⟩, by rw [e1]; dsimp only; omega⟩
        rw [take_one hx, take_one hy, hp, hb.1 h]
    have h8 : x.ks = y.ks := by
      have hx : k = x.ks.length := by have := of_decide_eq_false hx; omega
      rwa [hx, List.take_length, List.take_of_length_le (by omega)] at hp
    refine ⟨⟨true, rfl, fun _ => ?_, fun _ => rfl⟩, s09⟩
    rw [← x.eta, ← y.eta, h1, h2, h3, h4, h5, h6, h7, h8]
theorem SameN_spec {F G : Nat → Prop} {x y : Nd} {cs ds : List Value} (hx : NdE w F x cs) (hy : NdE w G y ds) (hl : x.wt < 500000000) :
    Calls Tryd.prog fn_ref09_Same #[.agg ⟨cs⟩, .agg ⟨ds⟩] w (fun e w' => (∃ b : Bool, e = .returned (.bool b) ∧ (b = true ↔ x = y)) ∧ Still w w') := sameN_of _ x (Nat.lt_succ_self _) hl y w F G cs ds hx hy
theorem sameN_true {F G : Nat → Prop} {x : Nd} {cs ds : List Value} (hx : NdE w F x cs) (hy : NdE w G x ds) (hl : x.wt < 500000000) :
    Calls Tryd.prog fn_ref09_Same #[.agg ⟨cs⟩, .agg ⟨ds⟩] w (fun e w' => e = .returned (.bool true) ∧ Still w w') := by
  refine (SameN_spec hx hy hl).mono ?_
  rintro e w' ⟨⟨b, rfl, hb⟩, s⟩
  rw [hb.2 rfl]
  exact ⟨rfl, s⟩
end Go.Proofs.YtcoeiiihmpnagaaDoor
