/- Texts of one proof, one behind the other. Conditions: as each theorem names them. -/
import Derived.Test.YthommfjiaalecaaGreatDoorQ8
namespace Go.Proofs.YthommfjiaalecaaGreatDoor
open Go.RowKit Vc
variable {w : World}
theorem size_of : ∀ (n : Nat) (l : List Pt), SizeOf.sizeOf l < n → wtL l < 1000000000 → ∀ (w : World) (F : Nat → Prop) (v : Value) (most : Nat), SlAt w F l v → most ≤ 1000 → Calls Tryz.prog fn_ref08_Size #[v, .int .i64 (most : Int)] w (fun e w' => (∃ k : Nat, e = .returned (.int .i64 (k : Int)) ∧ k ≤ wtL l ∧ (k ≤ most → wtL l ≤ 8 * k)) ∧ Still w w') := by
  intro n
  induction n with
  | zero => intro l h; omega
  | succ n ih =>
    intro l hn hl w F v most hv hmost
    obtain ⟨p, c, rfl⟩ := hv.form
    have hwl := wtL_len l
    refine ref08_Size_calls _ _ _ _ _ _ ?_
    refine ⟨fun x i w1 => ∃ k j : Nat, x = (k : Int) ∧ i = (j : Int) ∧ j ≤ l.length ∧ k ≤ wtL (l.take j) ∧ (k ≤ most → wtL (l.take j) ≤ 8 * k) ∧ Still w w1, fun _ i _ => l.length - i.toNat, ⟨0, 0, rfl, rfl, Nat.zero_le _, Nat.zero_le _, fun _ => by simp [wtL], Still.refl _⟩, ?_⟩
    rintro _ _ _ w1 ⟨k, j, rfl, rfl, hj, hk, hk2, s1⟩
    refine bsel_of (fun hx => bsel_of (fun hy => ?_) (fun hy => ?_)) (fun hx => ?_)
    · have hx : j < l.length := by have := of_decide_eq_true hx; omega
      have hy : k ≤ most := by have := of_decide_eq_true hy; omega
      obtain ⟨b, wp, wc, rfl, c0, c1, c2, c3, c4, c5, hsw⟩ := (hv.still s1).fields hx
      have hwt := wt_take hx
      have hwe := l[j].wt_eq
      have hk3 := hk2 hy
      simp only [Int.toNat_natCast]
      have e0 : IntKind.i64.wrap ((most : Int) - (k : Int)) = ((most - k : Nat) : Int) := by rw [wrap_i64 (by omega) (by omega)]; omega
      rw [e0]
      refine ⟨fun wq => Still w1 wq, drew_still _, by omega, by omega, _, (fun wq (hq : Still w1 wq) => hq.cell c2), by omega, by omega, _, (fun wq (hq : Still w1 wq) => hq.cell c3), by omega, by omega, _, (fun wq (hq : Still w1 wq) => hq.cell c4), by omega, by omega, _, _, _, (fun wq (hq : Still w1 wq) => hq.cell c5), ?_⟩
      refine (ih _ (by have := word_of hx; omega) (by omega) w1.drew F _ (most - k) (hsw.still (drew_still _)) (by omega)).mono ?_
      rintro _ w2 ⟨⟨r, rfl, hr, hr2⟩, s2⟩
      have s12 : Still w1 w2 := (drew_still w1).trans s2
      have htk : wtL (l.take (j + 1)) = wtL (l.take j) + l[j].wt := by rw [take_one hx, wtL_append, wtL_one]
      have e1 : IntKind.i64.wrap (IntKind.i64.wrap (IntKind.i64.wrap (IntKind.i64.wrap (IntKind.i64.wrap ((k : Int) + 1) + (l[j].t.length : Int)) + (l[j].n.length : Int)) + (l[j].o.length : Int)) + (r : Int)) = ((k + 1 + l[j].t.length + l[j].n.length + l[j].o.length + r : Nat) : Int) := by
        rw [wrap_i64 (n := (k : Int) + 1) (by omega) (by omega), wrap_i64 (n := (k : Int) + 1 + (l[j].t.length : Int)) (by omega) (by omega), wrap_i64 (n := (k : Int) + 1 + (l[j].t.length : Int) + (l[j].n.length : Int)) (by omega) (by omega), wrap_i64 (n := (k : Int) + 1 + (l[j].t.length : Int) + (l[j].n.length : Int) + (l[j].o.length : Int)) (by omega) (by omega), wrap_i64 (by omega) (by omega)]
        omega
      have e2 : IntKind.i64.wrap ((j : Int) + 1) = ((j + 1 : Nat) : Int) := by rw [wrap_i64 (by omega) (by omega)]; omega
      refine .inl ⟨_, rfl, ?_⟩
      rw [e1, e2]
      refine ⟨s12, ⟨_, j + 1, rfl, rfl, hx, by omega, fun h => ?_, s1.trans s12⟩, by omega⟩
      have := hr2 (by omega)
      omega
    · have hy : ¬ k ≤ most := by have := of_decide_eq_false hy; omega
      refine ⟨⟨k, rfl, ?_, fun h => absurd h hy⟩, s1⟩
      have e : l = l.take j ++ l.drop j := (List.take_append_drop _ _).symm
      have h2 := wtL_append (l.take j) (l.drop j)
      rw [← e] at h2
      omega
    · have hx : j = l.length := by have := of_decide_eq_false hx; omega
      rw [hx, List.take_length] at hk hk2
      exact ⟨⟨k, rfl, hk, hk2⟩, s1⟩
theorem wtW_take {l : List (List Pt)} {k : Nat} (h : k < l.length) : wtW (l.take (k + 1)) = wtW (l.take k) + (2 + wtL l[k]) := by
  rw [take_snoc h, wtW_append]; simp [wtW]
theorem wtP_take {l : List (Txt × List Pt)} {k : Nat} (h : k < l.length) : wtP (l.take (k + 1)) = wtP (l.take k) + (2 + l[k].1.length + wtL l[k].2) := by
  rw [take_snoc h, wtP_append]; simp [wtP]
theorem wtO_take {l : List Txt} {k : Nat} (h : k < l.length) : wtO (l.take (k + 1)) = wtO (l.take k) + (2 + l[k].length) := by
  rw [take_snoc h, wtO_append]; simp [wtO]
theorem wtNs_take {l : List Nd} {k : Nat} (h : k < l.length) : wtNs (l.take (k + 1)) = wtNs (l.take k) + l[k].wt := by
  rw [take_snoc h, wtNs_append]; simp [wtNs]
theorem wtW_le (l : List (List Pt)) (k : Nat) : wtW (l.take k) ≤ wtW l := by
  have := wtW_append (l.take k) (l.drop k); rw [List.take_append_drop] at this; omega
theorem wtP_le (l : List (Txt × List Pt)) (k : Nat) : wtP (l.take k) ≤ wtP l := by
  have := wtP_append (l.take k) (l.drop k); rw [List.take_append_drop] at this; omega
theorem wtO_le (l : List Txt) (k : Nat) : wtO (l.take k) ≤ wtO l := by
  have := wtO_append (l.take k) (l.drop k); rw [List.take_append_drop] at this; omega
theorem wtNs_le (l : List Nd) (k : Nat) : wtNs (l.take k) ≤ wtNs l := by
  have := wtNs_append (l.take k) (l.drop k); rw [List.take_append_drop] at this; omega
def SzI (w : World) (n most W : Nat) (k i : Int) (w2 : World) (j : Nat) : Prop := ∃ K : Nat, k = (K : Int) ∧ i = (j : Int) ∧ j ≤ n ∧ K ≤ W ∧ (K ≤ most → W ≤ 8 * K) ∧ Still w w2
def SizedN (x : Nd) (most : Nat) (w : World) (e : Ending) (w' : World) : Prop := (∃ k : Nat, e = .returned (.int .i64 (k : Int)) ∧ k ≤ x.wt ∧ (k ≤ most → x.wt ≤ 8 * k)) ∧ Still w w'
theorem wrapN {z : Int} {n : Nat} (h : z = (n : Int)) (hn : n < 9000000000) : IntKind.i64.wrap z = (n : Int) := by rw [wrap_i64 (by omega) (by omega), h]
def Goes (n most K j : Nat) (b : Bool) : Prop := (b = true → j < n ∧ K ≤ most) ∧ (b = false → K ≤ most → j = n)
theorem goes_of {n most K j : Nat} (hj : j ≤ n) (w2 : World) : bsel (decide ((j : Int) < ((n : Nat) : Int))) ((fun b w3 => w3 = w2 ∧ Goes n most K j b) (decide ((K : Int) ≤ (most : Int))) w2) ((fun b w3 => w3 = w2 ∧ Goes n most K j b) false w2) :=
  bsel_of (fun h => ⟨rfl, fun hb => ⟨by have := of_decide_eq_true h; omega, by have := of_decide_eq_true hb; omega⟩, fun hb hk => absurd hk (by have := of_decide_eq_false hb; omega)⟩) (fun h => ⟨rfl, fun hb => (by cases hb), fun _ _ => by have := of_decide_eq_false h; omega⟩)
set_option maxRecDepth 10000 in
theorem nsize_of : ∀ (n : Nat) (x : Nd), x.wt < n → x.wt ≤ 800000000 → ∀ (w : World) (F : Nat → Prop) (cs : List Value) (most : Nat), NdE w F x cs → most ≤ 1000 → Calls Tryz.prog fn_ref09_Size #[.agg ⟨cs⟩, .int .i64 (most : Int)] w (SizedN x most w) := by
  intro n
  induction n with
  | zero => intro x h; omega
  | succ n ihn =>
    intro x hn hl w F cs most hx hmost
    obtain ⟨pw, cw, pa, ca, pr, cr, po, co, pk, ck, rfl, hw, ha, hr, ho, hk⟩ := hx.outs
    have hwt := x.wt_eq
    have l1 := wtW_len x.ws
    have l2 := wtP_len x.as
    have l3 := wtP_len x.rs
    have l4 := wtO_len x.os
    have l5 := wtNs_len x.ks
    refine ref09_Size_calls _ _ _ _ _ _ _ _ _ _ _ _ _ _ _ _ _ _ _ _ _ ?_
    refine allocK fun w1 r1 s1 z1 => ⟨x.nm, r1.lget rfl, ?_⟩
    rw [wrapN (z := (1 : Int) + (x.nm.length : Int)) (n := 1 + x.nm.length) (by omega) (by omega)]
    refine ⟨fun k i w2 => ∃ j, SzI w1 x.ws.length most (2 + x.nm.length + wtW (x.ws.take j)) k i w2 j, fun _ i _ => x.ws.length - i.toNat, ⟨0, _, rfl, rfl, Nat.zero_le _, by simp [wtW], fun _ => by simp [wtW]; omega, Still.refl _⟩, ?_⟩
    rintro _ _ _ w2 ⟨j, K, rfl, rfl, hj, hK1, hK2, s2⟩
    have hwj := wtW_le x.ws j
    refine ⟨fun b w3 => w3 = w2 ∧ Goes x.ws.length most K j b, ⟨_, _, _, (r1.still s2).lget rfl, goes_of hj w2⟩, ?_⟩
    rintro b _ w3 ⟨rfl, hb1, hb2⟩
    refine bsel_of (fun hb => ?_) (fun hb => ?_)
    · obtain ⟨hjl, hKm⟩ := hb1 hb
      have htk := wtW_take hjl
      have hwj1 := wtW_le x.ws (j + 1)
      have hK3 := hK2 hKm
      obtain ⟨b, cs, rfl, _, ⟨v, rfl, hE⟩, hcell⟩ := ((hw.still s1).still s2).get (List.getElem?_eq_getElem hjl)
      obtain ⟨q, d, rfl⟩ := hE.form
      have hcell : CellsAt w3 (b.add (j * 1)) _ := hcell
      rw [Int.toNat_natCast]
      refine ⟨_, _, _, (r1.still s2).lget rfl, by omega, by omega, _, _, _, hcell.zero, (size_of _ x.ws[j] (Nat.lt_succ_self _) (by omega) w3 F _ most hE hmost).mono ?_⟩
      rintro _ w4 ⟨⟨r, rfl, hr1, hr2⟩, s4⟩
      refine .inl ⟨_, rfl, ?_⟩
      rw [wrapN (z := (K : Int) + 1) (n := K + 1) (by omega) (by omega), wrapN (z := ((K + 1 : Nat) : Int) + (r : Int)) (n := K + 1 + r) (by omega) (by omega), wrapN (z := (j : Int) + 1) (n := j + 1) (by omega) (by omega)]
      exact ⟨⟨j + 1, _, rfl, rfl, hjl, by omega, fun h => by have := hr2 (by omega); omega, s2.trans s4⟩, by dsimp only; omega⟩
    have hW : K ≤ most → 2 + x.nm.length + wtW x.ws ≤ 8 * K := fun h => by
      have hj := hb2 hb h
      have := hK2 h
      rw [hj, List.take_length] at this
      exact this
    have hWu : K ≤ 2 + x.nm.length + wtW x.ws := by omega
    clear hb1 hb2 hK1 hK2 hb
    refine ⟨fun k i w2 => ∃ j, SzI w1 x.as.length most (2 + x.nm.length + wtW x.ws + wtP (x.as.take j)) k i w2 j, fun _ i _ => x.as.length - i.toNat, ⟨0, K, rfl, rfl, Nat.zero_le _, by simp only [List.take_zero, wtP]; omega, fun h => by have := hW h; simp only [List.take_zero, wtP]; omega, s2⟩, ?_⟩
    clear hW hWu s2
    rintro _ _ _ w2 ⟨j, K, rfl, rfl, hj, hK1, hK2, s2⟩
    have hwj := wtP_le x.as j
    refine ⟨fun w15 => j < x.as.length ∧ K ≤ most ∧ w15 = w2, ⟨fun b w3 => w3 = w2 ∧ Goes x.as.length most K j b, ⟨_, _, _, (r1.still s2).lget rfl, goes_of hj w2⟩, ?_⟩, ?_⟩
    rotate_left
    · rintro _ w3 ⟨hjl, hKm, rfl⟩
      have htk := wtP_take hjl
      have hwj1 := wtP_le x.as (j + 1)
      have hK3 := hK2 hKm
      have sD := drew_still w3
      obtain ⟨b, cs, rfl, _, ⟨v, rfl, hE⟩, hcell⟩ := ((ha.still s1).still s2).get (List.getElem?_eq_getElem hjl)
      obtain ⟨q, d, rfl⟩ := hE.form
      have hcell : CellsAt w3 (b.add (j * 2)) [.string (S x.as[j].1), .slice q x.as[j].2.length d] := hcell
      rw [Int.toNat_natCast]
      refine ⟨fun wq => Still w3 wq, sD, _, _, _, fun wq hq => ((r1.still s2).still hq).lget rfl, by omega, by omega, _, fun wq hq => hq.cell hcell.zero, _, _, _, fun wq hq => ((r1.still s2).still hq).lget rfl, by omega, by omega, _, _, _, fun wq hq => hq.cell (hcell 1 _ rfl), (size_of _ x.as[j].2 (Nat.lt_succ_self _) (by omega) w3.drew F _ most (hE.still sD) hmost).mono ?_⟩
      rintro _ w4 ⟨⟨r, rfl, hr1, hr2⟩, s4⟩
      refine .inl ⟨_, rfl, sD.trans s4, ?_⟩
      rw [wrapN (z := (K : Int) + 1) (n := K + 1) (by omega) (by omega), wrapN (z := ((K + 1 : Nat) : Int) + (x.as[j].1.length : Int)) (n := K + 1 + x.as[j].1.length) (by omega) (by omega), wrapN (z := ((K + 1 + x.as[j].1.length : Nat) : Int) + (r : Int)) (n := K + 1 + x.as[j].1.length + r) (by omega) (by omega), wrapN (z := (j : Int) + 1) (n := j + 1) (by omega) (by omega)]
      exact ⟨⟨j + 1, _, rfl, rfl, hjl, by omega, fun h => by have := hr2 (by omega); omega, s2.trans (sD.trans s4)⟩, by dsimp only; omega⟩
    rintro b _ w3 ⟨rfl, hb1, hb2⟩
    refine bsel_of (fun hb => ⟨(hb1 hb).1, (hb1 hb).2, rfl⟩) (fun hb => ?_)
    have hW : K ≤ most → 2 + x.nm.length + wtW x.ws + wtP x.as ≤ 8 * K := fun h => by
      have hj := hb2 hb h
      have := hK2 h
      rw [hj, List.take_length] at this
      exact this
    have hWu : K ≤ 2 + x.nm.length + wtW x.ws + wtP x.as := by omega
    clear hb1 hb2 hK1 hK2 hb
    refine ⟨fun k i w2 => ∃ j, SzI w1 x.rs.length most (2 + x.nm.length + wtW x.ws + wtP x.as + wtP (x.rs.take j)) k i w2 j, fun _ i _ => x.rs.length - i.toNat, ⟨0, K, rfl, rfl, Nat.zero_le _, by simp only [List.take_zero, wtP]; omega, fun h => by have := hW h; simp only [List.take_zero, wtP]; omega, s2⟩, ?_⟩
    clear hW hWu s2
    rintro _ _ _ w2 ⟨j, K, rfl, rfl, hj, hK1, hK2, s2⟩
    have hwj := wtP_le x.rs j
    refine ⟨fun w15 => j < x.rs.length ∧ K ≤ most ∧ w15 = w2, ⟨fun b w3 => w3 = w2 ∧ Goes x.rs.length most K j b, ⟨_, _, _, (r1.still s2).lget rfl, goes_of hj w2⟩, ?_⟩, ?_⟩
    rotate_left
    · rintro _ w3 ⟨hjl, hKm, rfl⟩
      have htk := wtP_take hjl
      have hwj1 := wtP_le x.rs (j + 1)
      have hK3 := hK2 hKm
      have sD := drew_still w3
      obtain ⟨b, cs, rfl, _, ⟨v, rfl, hE⟩, hcell⟩ := ((hr.still s1).still s2).get (List.getElem?_eq_getElem hjl)
      obtain ⟨q, d, rfl⟩ := hE.form
      have hcell : CellsAt w3 (b.add (j * 2)) [.string (S x.rs[j].1), .slice q x.rs[j].2.length d] := hcell
      rw [Int.toNat_natCast]
      refine ⟨fun wq => Still w3 wq, sD, _, _, _, fun wq hq => ((r1.still s2).still hq).lget rfl, by omega, by omega, _, fun wq hq => hq.cell hcell.zero, _, _, _, fun wq hq => ((r1.still s2).still hq).lget rfl, by omega, by omega, _, _, _, fun wq hq => hq.cell (hcell 1 _ rfl), (size_of _ x.rs[j].2 (Nat.lt_succ_self _) (by omega) w3.drew F _ most (hE.still sD) hmost).mono ?_⟩
      rintro _ w4 ⟨⟨r, rfl, hr1, hr2⟩, s4⟩
      refine .inl ⟨_, rfl, sD.trans s4, ?_⟩
      rw [wrapN (z := (K : Int) + 1) (n := K + 1) (by omega) (by omega), wrapN (z := ((K + 1 : Nat) : Int) + (x.rs[j].1.length : Int)) (n := K + 1 + x.rs[j].1.length) (by omega) (by omega), wrapN (z := ((K + 1 + x.rs[j].1.length : Nat) : Int) + (r : Int)) (n := K + 1 + x.rs[j].1.length + r) (by omega) (by omega), wrapN (z := (j : Int) + 1) (n := j + 1) (by omega) (by omega)]
      exact ⟨⟨j + 1, _, rfl, rfl, hjl, by omega, fun h => by have := hr2 (by omega); omega, s2.trans (sD.trans s4)⟩, by dsimp only; omega⟩
    rintro b _ w3 ⟨rfl, hb1, hb2⟩
    refine bsel_of (fun hb => ⟨(hb1 hb).1, (hb1 hb).2, rfl⟩) (fun hb => ?_)
    have hW : K ≤ most → 2 + x.nm.length + wtW x.ws + wtP x.as + wtP x.rs ≤ 8 * K := fun h => by
      have hj := hb2 hb h
      have := hK2 h
      rw [hj, List.take_length] at this
      exact this
    have hWu : K ≤ 2 + x.nm.length + wtW x.ws + wtP x.as + wtP x.rs := by omega
    clear hb1 hb2 hK1 hK2 hb
    refine ⟨fun k i w2 => ∃ j, SzI w1 x.os.length most (2 + x.nm.length + wtW x.ws + wtP x.as + wtP x.rs + wtO (x.os.take j)) k i w2 j, fun _ i _ => x.os.length - i.toNat, ⟨0, K, rfl, rfl, Nat.zero_le _, by simp only [List.take_zero, wtO]; omega, fun h => by have := hW h; simp only [List.take_zero, wtO]; omega, s2⟩, ?_⟩
    clear hW hWu s2
    rintro _ _ _ w2 ⟨j, K, rfl, rfl, hj, hK1, hK2, s2⟩
    have hwj := wtO_le x.os j
    refine ⟨fun b w3 => w3 = w2 ∧ Goes x.os.length most K j b, ⟨_, _, _, (r1.still s2).lget rfl, goes_of hj w2⟩, ?_⟩
    rintro b _ w3 ⟨rfl, hb1, hb2⟩
    refine bsel_of (fun hb => ?_) (fun hb => ?_)
    · obtain ⟨hjl, hKm⟩ := hb1 hb
      have htk := wtO_take hjl
      have hwj1 := wtO_le x.os (j + 1)
      have hK3 := hK2 hKm
      obtain ⟨b', cs', rfl, _, hE', hcell'⟩ := ((ho.still s1).still s2).get (List.getElem?_eq_getElem hjl)
      obtain rfl : cs' = [.string (S x.os[j])] := hE'
      have hcell' : CellsAt w3 (b'.add (j * 1)) _ := hcell'
      rw [Int.toNat_natCast, wrapN (z := (K : Int) + 1) (n := K + 1) (by omega) (by omega), wrapN (z := (j : Int) + 1) (n := j + 1) (by omega) (by omega)]
      refine ⟨_, _, _, (r1.still s2).lget rfl, by omega, by omega, x.os[j], hcell'.zero, ?_⟩
      rw [wrapN (z := ((K + 1 : Nat) : Int) + (x.os[j].length : Int)) (n := K + 1 + x.os[j].length) (by omega) (by omega)]
      exact ⟨⟨j + 1, _, rfl, rfl, hjl, by omega, fun h => by omega, s2⟩, by dsimp only; omega⟩
    have hW : K ≤ most → 2 + x.nm.length + wtW x.ws + wtP x.as + wtP x.rs + wtO x.os ≤ 8 * K := fun h => by
      have hj := hb2 hb h
      have := hK2 h
      rw [hj, List.take_length] at this
      exact this
    have hWu : K ≤ 2 + x.nm.length + wtW x.ws + wtP x.as + wtP x.rs + wtO x.os := by omega
    clear hb1 hb2 hK1 hK2 hb
    refine ⟨fun k i w2 => ∃ j, SzI w1 x.ks.length most (2 + x.nm.length + wtW x.ws + wtP x.as + wtP x.rs + wtO x.os + wtNs (x.ks.take j)) k i w2 j, fun _ i _ => x.ks.length - i.toNat, ⟨0, K, rfl, rfl, Nat.zero_le _, by simp only [List.take_zero, wtNs]; omega, fun h => by have := hW h; simp only [List.take_zero, wtNs]; omega, s2⟩, ?_⟩
    clear hW hWu s2
    rintro _ _ _ w3 ⟨j, K, rfl, rfl, hj, hK1, hK2, s2⟩
    have hwj := wtNs_le x.ks j
    refine ⟨_, _, _, (r1.still s2).lget rfl, bsel_of (fun h => bsel_of (fun hm => ?_) (fun hm => ?_)) (fun h => ?_)⟩
    · have hjl : j < x.ks.length := by have := of_decide_eq_true h; omega
      have hKm : K ≤ most := by have := of_decide_eq_true hm; omega
      have htk := wtNs_take hjl
      have hwj1 := wtNs_le x.ks (j + 1)
      have hK3 := hK2 hKm
      obtain ⟨b, cs, rfl, _, hE, hcell⟩ := ((hk.still s1).still s2).get (List.getElem?_eq_getElem hjl)
      have hE : NdE w3 F x.ks[j] cs := hE
      obtain ⟨pw', cw', pa', ca', pr', cr', po', co', pk', ck', rfl, _⟩ := hE.outs
      have hcell : CellsAt w3 (b.add (j * 8)) _ := hcell
      rw [Int.toNat_natCast, wrapN (z := (most : Int) - (K : Int)) (n := most - K) (by omega) (by omega), wrapN (z := (j : Int) + 1) (n := j + 1) (by omega) (by omega)]
      refine ⟨_, _, _, (r1.still s2).lget rfl, by omega, by omega, _, _, _, _, _, _, _, _, _, _, _, _, _, _, _, _, _, _, hcell.zero, hcell 1 _ rfl, hcell 2 _ rfl, hcell 3 _ rfl, hcell 4 _ rfl, hcell 5 _ rfl, hcell 6 _ rfl, hcell 7 _ rfl, (ihn x.ks[j] (by omega) (by omega) w3 F _ (most - K) hE (by omega)).mono ?_⟩
      rintro _ w4 ⟨⟨r, rfl, hr1, hr2⟩, s4⟩
      refine .inl ⟨_, rfl, ?_⟩
      rw [wrapN (z := (K : Int) + (r : Int)) (n := K + r) (by omega) (by omega)]
      exact ⟨⟨j + 1, _, rfl, rfl, hjl, by omega, fun h => by have := hr2 (by omega); omega, s2.trans s4⟩, by dsimp only; omega⟩
    · exact ⟨⟨K, rfl, by omega, fun h => absurd h (by have := of_decide_eq_false hm; omega)⟩, s1.trans s2⟩
    · have hj : j = x.ks.length := by have := of_decide_eq_false h; omega
      rw [hj, List.take_length] at hK2
      exact ⟨⟨K, rfl, by omega, fun h => by have := hK2 h; omega⟩, s1.trans s2⟩
theorem UnparseAny_spec {F : Nat → Prop} {x : Nd} {cs : List Value} (hx : NdE w F x cs) (hl : x.wt ≤ 800000000) : Calls Tryz.prog fn_law10_UnparseAny #[.agg ⟨cs⟩] w (fun e w' => e = .returned (.bool true) ∧ Still w w') := by
  have hx' := hx
  obtain ⟨pw, cw, pa, ca, pr, cr, po, co, pk, ck, rfl, _⟩ := hx.outs
  refine law10_UnparseAny_calls _ _ _ _ _ _ _ _ _ _ _ _ _ _ _ _ _ _ _ _ ?_
  refine allocK fun w1 r1 s1 z1 => ?_
  have sD := drew_still w1
  refine ⟨fun wq => Still w1 wq, sD, awake10_spec.mono ?_⟩
  rintro _ w2 ⟨rfl, s2⟩
  have s2 := sD.trans s2
  refine .inl ⟨_, rfl, s2, bsel_of (fun _ => ?_) (fun h => by cases h)⟩
  refine ⟨_, _, _, _, _, _, _, _, _, _, _, _, _, _, _, _, _, _, fun wq hq => (r1.still hq).lget rfl, fun wq hq => (r1.still hq).lget rfl, fun wq hq => (r1.still hq).lget rfl, fun wq hq => (r1.still hq).lget rfl, fun wq hq => (r1.still hq).lget rfl, fun wq hq => (r1.still hq).lget rfl, fun wq hq => (r1.still hq).lget rfl, fun wq hq => (r1.still hq).lget rfl, (nsize_of _ x (Nat.lt_succ_self _) hl w2 F _ 1000 (hx'.still (s1.trans s2)) (Nat.le_refl _)).mono ?_⟩
  rintro _ w3 ⟨⟨k, rfl, hk1, hk2⟩, s3⟩
  have s3 := s2.trans s3
  refine .inl ⟨_, rfl, s3, bsel_of (fun h => ⟨s3, rfl, s1.trans s3⟩) (fun h => ?_)⟩
  have hk : k ≤ 1000 := by have := of_decide_eq_false h; omega
  have hw := hk2 hk
  refine ⟨_, _, _, _, _, _, _, _, _, _, _, _, _, _, _, _, _, _, fun wq hq => (r1.still hq).lget rfl, fun wq hq => (r1.still hq).lget rfl, fun wq hq => (r1.still hq).lget rfl, fun wq hq => (r1.still hq).lget rfl, fun wq hq => (r1.still hq).lget rfl, fun wq hq => (r1.still hq).lget rfl, fun wq hq => (r1.still hq).lget rfl, fun wq hq => (r1.still hq).lget rfl, _, _, _, _, _, _, _, _, _, _, _, _, _, _, _, _, _, _, fun wq hq => (r1.still hq).lget rfl, fun wq hq => (r1.still hq).lget rfl, fun wq hq => (r1.still hq).lget rfl, fun wq hq => (r1.still hq).lget rfl, fun wq hq => (r1.still hq).lget rfl, fun wq hq => (r1.still hq).lget rfl, fun wq hq => (r1.still hq).lget rfl, fun wq hq => (r1.still hq).lget rfl, (uprint_spec (hx'.still (s1.trans s3)) (by omega)).mono ?_⟩
  rintro _ w4 ⟨rfl, s4⟩
  have s4 := s3.trans s4
  refine .inl ⟨_, rfl, s4, (rprint_spec (hx'.still (s1.trans s4)) (by omega)).mono ?_⟩
  rintro _ w5 ⟨rfl, s5⟩
  exact .inl ⟨_, rfl, by rw [decide_eq_true rfl], (s1.trans s4).trans s5⟩
end Go.Proofs.YthommfjiaalecaaGreatDoor
