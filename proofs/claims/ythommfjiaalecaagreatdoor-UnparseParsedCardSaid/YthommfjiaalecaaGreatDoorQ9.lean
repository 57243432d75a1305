/- Texts of one proof, one behind the other. Conditions: as each theorem names them. -/
import Derived.Test.YthommfjiaalecaaGreatDoorQ8
namespace Go.Proofs.YthommfjiaalecaaGreatDoor
open Go.RowKit Vc
variable {w : World}
theorem size_of : ∀ (n : Nat) (l : List Pt), SizeOf.sizeOf l < n → wtL l < 1000000000 → ∀ (w : World) (F : Nat → Prop) (v : Value) (most : Nat), SlAt w F l v → most ≤ 1000 → Calls Tryz.prog fn_ref08_Size #[v, .int .i64 (most : Int)] w (fun e w' => (∃ k : Nat, e = .returned (.int .i64 (k : Int)) ∧ k ≤ wtL l ∧ (k ≤ most → wtL l ≤ 8 * k)) ∧ Still w w') := by
  intro n
  induction n with
  | zero => intro l h; omega
  | succ n ih =>
    intro l hn hl w F v most hv hmost
    obtain ⟨p, c, rfl⟩ := hv.form
    have hwl := wtL_len l
    refine ref08_Size_calls _ _ _ _ _ _ ?_
    refine ⟨fun x i w1 => ∃ k j : Nat, x = (k : Int) ∧ i = (j : Int) ∧ j ≤ l.length ∧ k ≤ wtL (l.take j) ∧ (k ≤ most → wtL (l.take j) ≤ 8 * k) ∧ Still w w1, fun _ i _ => l.length - i.toNat, ⟨0, 0, rfl, rfl, Nat.zero_le _, Nat.zero_le _, fun _ => by simp [wtL], Still.refl _⟩, ?_⟩
    rintro _ _ _ w1 ⟨k, j, rfl, rfl, hj, hk, hk2, s1⟩
    refine bsel_of (fun hx => bsel_of (fun hy => ?_) (fun hy => ?_)) (fun hx => ?_)
    · have hx : j < l.length := by have := of_decide_eq_true hx; omega
      have hy : k ≤ most := by have := of_decide_eq_true hy; omega
      obtain ⟨b, wp, wc, rfl, c0, c1, c2, c3, c4, c5, hsw⟩ := (hv.still s1).fields hx
      have hwt := wt_take hx
      have hwe := l[j].wt_eq
      have hk3 := hk2 hy
      simp only [Int.toNat_natCast]
      have e0 : IntKind.i64.wrap ((most : Int) - (k : Int)) = ((most - k : Nat) : Int) := by rw [wrap_i64 (by omega) (by omega)]; omega
      rw [e0]
      refine ⟨fun wq => Still w1 wq, drew_still _, by omega, by omega, _, (fun wq (hq : Still w1 wq) => hq.cell c2), by omega, by omega, _, (fun wq (hq : Still w1 wq) => hq.cell c3), by omega, by omega, _, (fun wq (hq : Still w1 wq) => hq.cell c4), by omega, by omega, _, _, _, (fun wq (hq : Still w1 wq) => hq.cell c5), ?_⟩
      refine (ih _ (by have := word_of hx; omega) (by omega) w1.drew F _ (most - k) (hsw.still (drew_still _)) (by omega)).mono ?_
      rintro _ w2 ⟨⟨r, rfl, hr, hr2⟩, s2⟩
      have s12 : Still w1 w2 := (drew_still w1).trans s2
      have htk : wtL (l.take (j + 1)) = wtL (l.take j) + l[j].wt := by rw [take_one hx, wtL_append, wtL_one]
      have e1 : IntKind.i64.wrap (IntKind.i64.wrap (IntKind.i64.wrap (IntKind.i64.wrap (IntKind.i64.wrap ((k : Int) + 1) + (l[j].t.length : Int)) + (l[j].n.length : Int)) + (l[j].o.length : Int)) + (r : Int)) = ((k + 1 + l[j].t.length + l[j].n.length + l[j].o.length + r : Nat) : Int) := by
        rw [wrap_i64 (n := (k : Int) + 1) (by omega) (by omega), wrap_i64 (n := (k : Int) + 1 + (l[j].t.length : Int)) (by omega) (by omega), wrap_i64 (n := (k : Int) + 1 + (l[j].t.length : Int) + (l[j].n.length : Int)) (by omega) (by omega), wrap_i64 (n := (k : Int) + 1 + (l[j].t.length : Int) + (l[j].n.length : Int) + (l[j].o.length : Int)) (by omega) (by omega), wrap_i64 (by omega) (by omega)]
        omega
      have e2 : IntKind.i64.wrap ((j : Int) + 1) = ((j + 1 : Nat) : Int) := by rw [wrap_i64 (by omega) (by omega)]; omega
      refine .inl ⟨_, rfl, ?_⟩
      rw [e1, e2]
      refine ⟨s12, ⟨_, j + 1, rfl, rfl, hx, by omega, fun h => ?_, s1.trans s12⟩, by omega⟩
      have := hr2 (by omega)
      omega
    · have hy : ¬ k ≤ most := by have := of_decide_eq_false hy; omega
      refine ⟨⟨k, rfl, ?_, fun h => absurd h hy⟩, s1⟩
      have e : l = l.take j ++ l.drop j := (List.take_append_drop _ _).symm
      have h2 := wtL_append (l.take j) (l.drop j)
      rw [← e] at h2
      omega
    · have hx : j = l.length := by have := of_decide_eq_false hx; omega
      rw [hx, List.take_length] at hk hk2
      exact ⟨⟨k, rfl, hk, hk2⟩, s1⟩
theorem wtW_take {l : List (List Pt)} {k : Nat} (h : k < l.length) : wtW (l.take (k + 1)) = wtW (l.take k) + (2 + wtL l[k]) := by
  rw [take_snoc h, wtW_append]; simp [wtW]
theorem wtP_take {l : List (Txt × List Pt)} {k : Nat} (h : k < l.length) : wtP (l.take (k + 1)) = wtP (l.take k) + (2 + l[k].1.length + wtL l[k].2) := by
  rw [take_snoc h, wtP_append]; simp [wtP]
theorem wtO_take {l : List Txt} {k : Nat} (h : k < l.length) : wtO (l.take (k + 1)) = wtO (l.take k) + (2 + l[k].length) := by
  rw [take_snoc h, wtO_append]; simp [wtO]
theorem wtNs_take {l : List Nd} {k : Nat} (h : k < l.length) : wtNs (l.take (k + 1)) = wtNs (l.take k) + l[k].wt := by
  rw [take_snoc h, wtNs_append]; simp [wtNs]
theorem wtW_le (l : List (List Pt)) (k : Nat) : wtW (l.take k) ≤ wtW l := by
  have := wtW_append (l.take k) (l.drop k); rw [List.take_append_drop] at this; omega
theorem wtP_le (l : List (Txt × List Pt)) (k : Nat) : wtP (l.take k) ≤ wtP l := by
  have := wtP_append (l.take k) (l.drop k); rw [List.take_append_drop] at this; omega
theorem wtO_le (l : List Txt) (k : Nat) : wtO (l.take k) ≤ wtO l := by
  have := wtO_append (l.take k) (l.drop k); rw [List.take_append_drop] at this; omega
theorem wtNs_le (l : List Nd) (k : Nat) : wtNs (l.take k) ≤ wtNs l := by
  have := wtNs_append (l.take k) (l.drop k); rw [List.take_append_drop] at this; omega
def SzI (w : World) (n most W : Nat) (k i : Int) (w2 : World) (j : Nat) : Prop := ∃ K : Nat, k = (K : Int) ∧ i = (j : Int) ∧ j ≤ n ∧ K ≤ W ∧ (K ≤ most → W ≤ 8 * K) ∧ Still w w2
def SizedN (x : Nd) (most : Nat) (w : World) (e : Ending) (w' : World) : Prop := (∃ k : Nat, e = .returned (.int .i64 (k : Int)) ∧ k ≤ x.wt ∧ (k ≤ most → x.wt ≤ 8 * k)) ∧ Still w w'
theorem wrapN {z : Int} {n : Nat} (h : z = (n : Int)) (hn : n < 9000000000) : IntKind.i64.wrap z = (n : Int) := by rw [wrap_i64 (by omega) (by omega), h]
def Goes (n most K j : Nat) (b : Bool) : Prop := (b = true → j < n ∧ K ≤ most) ∧ (b = false → K ≤ most → j = n)
theorem goes_of {n most K j : Nat} (hj : j ≤ n) (w2 : World) : bsel (decide ((j : Int) < ((n : Nat) : Int))) ((fun b w3 => w3 = w2 ∧ Goes n most K j b) (decide ((K : Int) ≤ (most : Int))) w2) ((fun b w3 => w3 = w2 ∧ Goes n most K j b) false w2) :=
  bsel_of (fun h => ⟨rfl, fun hb => ⟨by have := of_decide_eq_true h; omega, by have := of_decide_eq_true hb; omega⟩, fun hb hk => absurd hk (by have := of_decide_eq_false hb; omega)⟩) (fun h => ⟨rfl, fun hb => (by cases hb), fun _ _ => by have := of_decide_eq_false h; omega⟩)
set_option maxRecDepth 10000 in
theorem nsize_of : ∀ (n : Nat) (x : Nd), x.wt < n → x.wt ≤ 800000000 → ∀ (w : World) (F : Nat → Prop) (cs : List Value) (most : Nat), NdE w F x cs → most ≤ 1000 → Calls Tryz.prog fn_ref09_Size #[.agg ⟨cs⟩, .int .i64 (most : Int)] w (SizedN x most w) := by
  intro n
  induction n with
  | zero => intro x h; omega
  | succ n ihn =>
    intro x hn hl w F cs most hx hmost
    obtain ⟨pw, cw, pa, ca, pr, cr, po, co, pk, ck, rfl, hw, ha, hr, ho, hk⟩ := hx.outs
    have hwt := x.wt_eq
    have l1 := wtW_len x.ws
    have l2 := wtP_len x.as
    have l3 := wtP_len x.rs
    have l4 := wtO_len x.os
    have l5 := wtNs_len x.ks
    refine ref09_Size_calls _ _ _ _ _ _ _ _ _ _ _ _ _ _ _ _ _ _ _ _ _ ?_
    refine allocK fun w1 r1 s1 z1 => ⟨x.nm, r1.lget rfl, ?_⟩
    rw [wrapN (z := (1 : Int) + (x.nm.length : Int)) (n := 1 + x.nm.length) (by omega) (by omega)]
    refine ⟨fun k i w2 => ∃ j, SzI w1 x.ws.length most (2 + x.nm.length + wtW (x.ws.take j)) k i w2 j, fun _ i _ => x.ws.length - i.toNat, ⟨0, _, rfl, rfl, Nat.zero_le _, by simp [wtW], fun _ => by simp [wtW]; omega, Still.refl _⟩, ?_⟩
    rintro _ _ _ w2 ⟨j, K, rfl, rfl, hj, hK1, hK2, s2⟩
    have hwj := wtW_le x.ws j
    refine ⟨fun b w3 => w3 = w2 ∧ Goes x.ws.length most K j b, ⟨_, _, _, (r1.still s2).lget rfl, goes_of hj w2⟩, ?_⟩
    rintro b _ w3 ⟨rfl, hb1, hb2⟩
    refine bsel_of (fun hb => ?_) (fun hb => ?_)
    · obtain ⟨hjl, hKm⟩ := hb1 hb
      have htk := wtW_take hjl
      have hwj1 := wtW_le x.ws (j + 1)
      have hK3 := hK2 hKm
      obtain ⟨b, cs, rfl, _, ⟨v, rfl, hE⟩, hcell⟩ := ((hw.still s1).still s2).get (List.getElem?_eq_getElem hjl)
      obtain ⟨q, d, rfl⟩ := hE.form
      have hcell : CellsAt w3 (b.add (j * 1)) _ := hcell
      rw [Int.toNat_natCast]
      refine ⟨_, _, _, (r1.still s2).lget rfl, by omega, by omega, _, _, _, hcell.zero, (size_of _ x.ws[j] (Nat.lt_succ_self _) (by omega) w3 F _ most hE hmost).mono ?_⟩
      rintro _ w4 ⟨⟨r, rfl, hr1, hr2⟩, s4⟩
      refine .inl ⟨_, rfl, ?_⟩
      rw [wrapN (z := (K : Int) + 1) (n := K + 1) (by omega) (by omega), wrapN (z := ((K + 1 : Nat) : Int) + (r : Int)) (n := K + 1 + r) (by omega) (by omega), wrapN (z := (j : Int) + 1) (n := j + 1) (by omega) (by omega)]
      exact ⟨⟨j + 1, _, rfl, rfl, hjl, by omega, fun h => by have := hr2 (by omega); omega, s2.trans s4⟩, by dsimp only; omega⟩
    have hW : K ≤ most → 2 + x.nm.length + wtW x.ws ≤ 8 * K := fun h => by
      have hj := hb2 hb h
      have := hK2 h
      rw [hj, List.take_length] at this
      exact this
    have hWu : K ≤ 2 + x.nm.length + wtW x.ws := by omega
    clear hb1 hb2 hK1 hK2 hb
    refine ⟨fun k i w2 => ∃ j, SzI w1 x.as.length most (2 + x.nm.length + wtW x.ws + wtP (x.as.take j)) k i w2 j, fun _ i _ => x.as.length - i.toNat, ⟨0, K, rfl, rfl, Nat.zero_le _, by simp only [List.take_zero, wtP]; omega, fun h => by have := hW h; simp only [List.take_zero, wtP]; omega, s2⟩, ?_⟩
    clear hW hWu s2
    rintro _ _ _ w2 ⟨j, K, rfl, rfl, hj, hK1, hK2, s2⟩
    have hwj := wtP_le x.as j
    refine ⟨fun w15 => j < x.as.length ∧ K ≤ most ∧ w15 = w2, ⟨fun b w3 => w3 = w2 ∧ Goes x.as.length most K j b, ⟨_, _, _, (r1.still s2).lget rfl, goes_of hj w2⟩, ?_⟩, ?_⟩
    rotate_left
    · rintro _ w3 ⟨hjl, hKm, rfl⟩
      have htk := wtP_take hjl
      have hwj1 := wtP_le x.as (j + 1)
      have hK3 := hK2 hKm
      have sD := drew_still w3
      obtain ⟨b, cs, rfl, _, ⟨v, rfl, hE⟩, hcell⟩ := ((ha.still s1).still s2).get (List.getElem?_eq_getElem hjl)
      obtain ⟨q, d, rfl⟩ := hE.form
      have hcell : CellsAt w3 (b.add (j * 2)) [.string (S x.as[j].1), .slice q x.as[j].2.length d] := hcell
      rw [Int.toNat_natCast]
      refine ⟨fun wq => Still w3 wq, sD, _, _, _, fun wq hq => ((r1.still s2).still hq).lget rfl, by omega, by omega, _, fun wq hq => hq.cell hcell.zero, _, _, _, fun wq hq => ((r1.still s2).still hq).lget rfl, by omega, by omega, _, _, _, fun wq hq => hq.cell (hcell 1 _ rfl), (size_of _ x.as[j].2 (Nat.lt_succ_self _) (by omega) w3.drew F _ most (hE.still sD) hmost).mono ?_⟩
      rintro _ w4 ⟨⟨r, rfl, hr1, hr2⟩, s4⟩
      refine .inl ⟨_, rfl, sD.trans s4, ?_⟩
      rw [wrapN (z := (K : Int) + 1) (n := K + 1) (by omega) (by omega), wrapN (z := ((K + 1 : Nat) : Int) + (x.as[j].1.length : Int)) (n := K + 1 + x.as[j].1.length) (by omega) (by omega), wrapN (z := ((K + 1 + x.as[j].1.length : Nat) : Int) + (r : Int)) (n := K + 1 + x.as[j].1.length + r) (by omega) (by omega), wrapN (z := (j : Int) + 1) (n := j + 1) (by omega) (by omega)]
      exact ⟨⟨j + 1, _, rfl, rfl, hjl, by omega, fun h => by have := hr2 (by omega); omega, s2.trans (sD.trans s4)⟩, by dsimp only; omega⟩
    rintro b _ w3 ⟨rfl, hb1, hb2⟩
    refine bsel_of (fun hb => ⟨(hb1 hb).1, (hb1 hb).2, rfl⟩) (fun hb => ?_)
    have hW : K ≤ most → 2 + x.nm.length + wtW x.ws + wtP x.as ≤ 8 * K := fun h => by
      have hj := hb2 hb h
      have := hK2 h
      rw [hj, List.take_length] at this
      exact this
    have hWu : K ≤ 2 + x.nm.length + wtW x.ws + wtP x.as := by omega
    clear hb1 hb2 hK1 hK2 hb
    refine ⟨fun k i w2 => ∃ j, SzI w1 x.rs.length most (2 + x.nm.length + wtW x.ws + wtP x.as + wtP (x.rs.take j)) k i w2 j, fun _ i _ => x.rs.length - i.toNat, ⟨0, K, rfl, rfl, Nat.zero_le _, by simp only [List.take_zero, wtP]; omega, fun h => by have := hW h; simp only [List.take_zero, wtP]; omega, s2⟩, ?_⟩
    clear hW hWu s2
    rintro _ _ _ w2 ⟨j, K, rfl, rfl, hj, hK1, hK2, s2⟩
    have hwj := wtP_le x.rs j
    refine ⟨fun w15 => j < x.rs.length ∧ K ≤ most ∧ w15 = w2, ⟨fun b w3 => w3 = w2 ∧ Goes x.rs.length most K j b, ⟨_, _, _, (r1.still s2).lget rfl, goes_of hj w2⟩, ?_⟩, ?_⟩
    rotate_left
    · rintro _ w3 ⟨hjl, hKm, rfl⟩
      have htk := wtP_take hjl
      have hwj1 := wtP_le x.rs (j + 1)
      have hK3 := hK2 hKm
      have sD := drew_still w3
      obtain ⟨b, cs, rfl, _, ⟨v, rfl, hE⟩, hcell⟩ := ((hr.still s1).still s2).get (List.getElem?_eq_getElem hjl)
      obtain ⟨q, d, rfl⟩ := hE.form
      have hcell : CellsAt w3 (b.add (j * 2)) [.string (S x.rs[j].1), .slice q x.rs[j].2.length d] := hcell
      rw [Int.toNat_natCast]
      refine ⟨fun wq => Still w3 wq, sD, _, _, _, fun wq hq => ((r1.still s2).still hq).lget rfl, by omega, by omega, _, fun wq hq => hq.cell hcell.zero, _, _, _, fun wq hq => ((r1.still s2).still hq).lget rfl, by omega, by omega, _, _, _, fun wq hq => hq.cell (hcell 1 _ rfl), (size_of _ x.rs[j].2 (Nat.lt_succ_self _) (by omega) w3.drew F _ most (hE.still sD) hmost).mono ?_⟩
      rintro _ w4 ⟨⟨r, rfl, hr1, hr2⟩, s4⟩
      refine .inl ⟨_, rfl, sD.trans s4, ?_⟩
      rw [wrapN (z := (K : Int) + 1) (n := K + 1) (by omega) (by omega), wrapN (z := ((K + 1 : Nat) : Int) + (x.rs[j].1.length : Int)) (n := K + 1 + x.rs[j].1.length) (by omega) (by omega), wrapN (z := ((K + 1 + x.rs[j].1.length : Nat) : Int) + (r : Int)) (n := K + 1 + x.rs[j].1.length + r) (by omega) (by omega), wrapN (z := (j : Int) + 1) (n := j + 1) (by omega) (by omega)]
      exact ⟨⟨j + 1, _, rfl, rfl, hjl, by omega, fun h => by have := hr2 (by omega); omega, s2.trans (sD.trans s4)⟩, by dsimp only; omega⟩
    rintro b _ w3 ⟨rfl, hb1, hb2⟩
    refine bsel_of (fun hb => ⟨(hb1 hb).1, (hb1 hb).2, rfl⟩) (fun hb => ?_)
    have hW : K ≤ most → 2 + x.nm.length + wtW x.ws + wtP x.as + wtP x.rs ≤ 8 * K := fun h => by
      have hj := hb2 hb h
      have := hK2 h
      rw [hj, List.take_length] at this
      exact this
    have hWu : K ≤ 2 + x.nm.length + wtW x.ws + wtP x.as + wtP x.rs := by omega
    clear hb1 hb2 hK1 hK2 hb
    refine ⟨fun k i w2 => ∃ j, SzI w1 x.os.length most (2 + x.nm.length + wtW x.ws + wtP x.as + wtP x.rs + wtO (x.os.take j)) k i w2 j, fun _ i _ => x.os.length - i.toNat, ⟨0, K, rfl, rfl, Nat.zero_le _, by simp only [List.take_zero, wtO]; omega, fun h => by have := hW h; simp only [List.take_zero, wtO]; omega, s2⟩, ?_⟩
    clear hW hWu s2
    rintro _ _ _ w2 ⟨j, K, rfl, rfl, hj, hK1, hK2, s2⟩
    have hwj := wtO_le x.os j
    refine ⟨fun b w3 => w3 = w2 ∧ Goes x.os.length most K j b, ⟨_, _, _, (r1.still s2).lget rfl, goes_of hj w2⟩, ?_⟩
    rintro b _ w3 ⟨rfl, hb1, hb2⟩
    refine bsel_of (fun hb => ?_) (fun hb => ?_)
    · obtain ⟨hjl, hKm⟩ := hb1 hb
      have htk := wtO_take hjl
      have hwj1 := wtO_le x.os (j + 1)
      have hK3 := hK2 hKm
      obtain ⟨b', cs', rfl, _, hE', hcell'⟩ := ((ho.still s1).still s2).get (List.getElem?_eq_getElem hjl)
      obtain rfl : cs' = [.string (S x.os[j])] := hE'
      have hcell' : CellsAt w3 (b'.add (j * 1)) _ := hcell'
      rw [Int.toNat_natCast, wrapN (z := (K : Int) + 1) (n := K + 1) (by omega) (by omega), wrapN (z := (j : Int) + 1) (n := j + 1) (by omega) (by omega)]
      refine ⟨_, _, _, (r1.still s2).lget rfl, by omega, by omega, x.os[j], hcell'.zero, ?_⟩
      rw [wrapN (z := ((K + 1 : Nat) : Int) + (x.os[j].length : Int)) (n := K + 1 + x.os[j].length) (by omega) (by omega)]
      exact ⟨⟨j + 1, _, rfl, rfl, hjl, by omega, fun h => by omega, s2⟩, by dsimp only; omega⟩
    have hW : K ≤ most → 2 + x.nm.length + wtW x.ws + wtP x.as + wtP x.rs + wtO x.os ≤ 8 * K := fun h => by
      have hj := hb2 hb h
      have := hK2 h
      rw [hj, List.take_length] at this
      exact this
    have hWu : K ≤ 2 + x.nm.length + wtW x.ws + wtP x.as + wtP x.rs + wtO x.os := by omega
    clear hb1 hb2 hK1 hK2 hb
    refine ⟨fun k i w2 => ∃ j, SzI w1 x.ks.length most (2 + x.nm.length + wtW x.ws + wtP x.as + wtP x.rs + wtO x.os + wtNs (x.ks.take j)) k i w2 j, fun _ i _ => x.ks.length - i.toNat, ⟨0, K, rfl, rfl, Nat.zero_le _, by simp only [List.take_zero, wtNs]; omega, fun h => by have := hW h; simp only [List.take_zero, wtNs]; omega, s2⟩, ?_⟩
    clear hW hWu s2
    rintro _ _ _ w3 ⟨j, K, rfl, rfl, hj, hK1, hK2, s2⟩
    have hwj := wtNs_le x.ks j
    refine ⟨_, _, _, (r1.still s2).lget rfl, bsel_of (fun h => bsel_of (fun hm => ?_) (fun hm => ?_)) (fun h => ?_)⟩
    · have hjl : j < x.ks.length := by have := of_decide_eq_true h; omega
      have hKm : K ≤ most := by have := of_decide_eq_true hm; omega
      have htk := wtNs_take hjl
      have hwj1 := wtNs_le x.ks (j + 1)
      have hK3 := hK2 hKm
      obtain ⟨b, cs, rfl, _, hE, hcell⟩ := ((hk.still s1).still s2).get (List.getElem?_eq_getElem hjl)
      have hE : NdE w3 F x.ks[j] cs := hE
      obtain ⟨pw', cw', pa', ca', pr', cr', po', co', pk', ck', rfl, _⟩ := hE.outs
      have hcell : CellsAt w3 (b.add (j * 8)) _ := hcell
      rw [Int.toNat_natCast, wrapN (z := (most : Int) - (K : Int)) (n := most - K) (by omega) (by omega), wrapN (z := (j : Int) + 1) (n := j + 1) (by omega) (by omega)]
      refine ⟨_, _, _, (r1.still s2).lget rfl, by omega, by omega, _, _, _, _, _, _, _, _, _, _, _, _, _, _, _, _, _, _, hcell.zero, hcell 1 _ rfl, hcell 2 _ rfl, hcell 3 _ rfl, hcell 4 _ rfl, hcell 5 _ rfl, hcell 6 _ rfl, hcell 7 _ rfl, (ihn x.ks[j] (by omega) (by omega) w3 F _ (most - K) hE (by omega)).mono ?_⟩
      rintro _ w4 ⟨⟨r, rfl, hr1, hr2⟩, s4⟩
      refine .inl ⟨_, rfl, ?_⟩
      rw [wrapN (z := (K : Int) + (r : Int)) (n := K + r) (by omega) (by omega)]
      exact ⟨⟨j + 1, _, rfl, rfl, hjl, by omega, fun h => by have := hr2 (by omega); omega, s2.trans s4⟩, by dsimp only; omega⟩
    · exact ⟨⟨K, rfl, by omega, fun h => absurd h (by have := of_decide_eq_false hm; omega)⟩, s1.trans s2⟩
    · have hj : j = x.ks.length := by have := of_decide_eq_false h; omega
      rw [hj, List.take_length] at hK2
      exact ⟨⟨K, rfl, by omega, fun h => by have := hK2 h; omega⟩, s1.trans s2⟩
theorem UnparseAny_spec {F : Nat → Prop} {x : Nd} {cs : List Value} (hx : NdE w F x cs) (hl : x.wt ≤ 800000000) : Calls Tryz.prog fn_law10_UnparseAny #[.agg ⟨cs⟩] w (fun e w' => e = .returned (.bool true) ∧ Still w w') := by
  have hx' := hx
  obtain ⟨pw, cw, pa, ca, pr, cr, po, co, pk, ck, rfl, _⟩ := hx.outs
  refine law10_UnparseAny_calls _ _ _ _ _ _ _ _ _ _ _ _ _ _ _ _ _ _ _ _ ?_
  refine allocK fun w1 r1 s1 z1 => ?_
  have sD := drew_still w1
  refine ⟨fun wq => Still w1 wq, sD, awake10_spec.mono ?_⟩
  rintro _ w2 ⟨rfl, s2⟩
  have s2 := sD.trans s2
  refine .inl ⟨_, rfl, s2, bsel_of (fun _ => ?_) (fun h => by cases h)⟩
  refine ⟨_, _, _, _, _, _, _, _, _, _, _, _, _, _, _, _, _, _, fun wq hq => (r1.still hq).lget rfl, fun wq hq => (r1.still hq).lget rfl, fun wq hq => (r1.still hq).lget rfl, fun wq hq => (r1.still hq).lget rfl, fun wq hq => (r1.still hq).lget rfl, fun wq hq => (r1.still hq).lget rfl, fun wq hq => (r1.still hq).lget rfl, fun wq hq => (r1.still hq).lget rfl, (nsize_of _ x (Nat.lt_succ_self _) hl w2 F _ 1000 (hx'.still (s1.trans s2)) (Nat.le_refl _)).mono ?_⟩
  rintro _ w3 ⟨⟨k, rfl, hk1, hk2⟩, s3⟩
  have s3 := s2.trans s3
  refine .inl ⟨_, rfl, s3, bsel_of (fun h => ⟨s3, rfl, s1.trans s3⟩) (fun h => ?_)⟩
  have hk : k ≤ 1000 := by have := of_decide_eq_false h; omega
  have hw := hk2 hk
  refine ⟨_, _, _, _, _, _, _, _, _, _, _, _, _, _, _, _, _, _, fun wq hq => (r1.still hq).lget rfl, fun wq hq => (r1.still hq).lget rfl, fun wq hq => (r1.still hq).lget rfl, fun wq hq => (r1.still hq).lget rfl, fun wq hq => (r1.still hq).lget rfl, fun wq hq => (r1.still hq).lget rfl, fun wq hq => (r1.still hq).lget rfl, fun wq hq => (r1.still hq).lget rfl, _, _, _, _, _, _, _, _, _, _, _, _, _, _, _, _, _, _, fun wq hq => (r1.still hq).lget rfl, fun wq hq => (r1.still hq).lget rfl, fun wq hq => (r1.still hq).lget rfl, fun wq hq => (r1.still hq).lget rfl, fun wq hq => (r1.still hq).lget rfl, fun wq hq => (r1.still hq).lget rfl, fun wq hq => (r1.still hq).lget rfl, fun wq hq => (r1.still hq).lget rfl, (uprint_spec (hx'.still (s1.trans s3)) (by omega)).mono ?_⟩
  rintro _ w4 ⟨rfl, s4⟩
  have s4 := s3.trans s4
  refine .inl ⟨_, rfl, s4, (rprint_spec (hx'.still (s1.trans s4)) (by omega)).mono ?_⟩
  rintro _ w5 ⟨rfl, s5⟩
  exact .inl ⟨_, rfl, by rw [decide_eq_true rfl], (s1.trans s4).trans s5⟩
end Go.Proofs.YthommfjiaalecaaGreatDoor
namespace Go.Proofs.YthommfjiaalecaaGreatDoor
open Go.ChangeShapes Go.WideShapes Go.ChangeAt Go.RowKit Vc
section
variable {H : Type} {enc : TypeId × Value → H} {W : World} {base b0 : Nat} {spare : Nat → Bool} {held : Bool} {r : Reach} {v : Value} {d : DataW H} {ps : List MemPlace}
set_option maxRecDepth 100000 in
theorem open_u8l (hval : Value.okWide Tryz.prog W r b0 33 v) (h : DataW.Trod enc Tryz.prog W base spare held 33 v d ps) (_ : Sized Tryz.prog 33 d) : ∃ p L C vs, v = .slice p L C ∧ U8At W p L vs := open_u8s hval h
end
end Go.Proofs.YthommfjiaalecaaGreatDoor
namespace Go.Proofs.YthommfjiaalecaaGreatDoor
open Go.ChangeShapes Go.WideShapes Go.ChangeAt Go.RowKit Vc
section
variable {H : Type} {enc : TypeId × Value → H} {W : World} {base b0 : Nat} {spare : Nat → Bool} {held : Bool} {r : Reach} {v : Value} {d : DataW H} {ps : List MemPlace}
def PartsRead (W : World) (v : Value) (b : Nat) : Prop := ∃ p C l, v = .slice p (List.length l) C ∧ SlAt W (fun _ => True) l (.slice p l.length C) ∧ wtL l ≤ 8 * b
set_option maxRecDepth 100000 in
theorem trod_parts : ∀ (k : Nat) (n : Nat) (v : Value) (y : DataW H × List MemPlace), Rows.uptoBulk y.1 < k → DataW.trod enc Tryz.prog W base spare held n 41 [v] = some y → PartsRead W v (Rows.uptoBulk y.1)
  | 0, _, _, _, h, _ => by omega
  | k + 1, n, v, y, hk, h => by
    rcases open_slice_fields Tryz.underlying41 Tryz.underlying63 (by kernel_rfl) (by kernel_rfl) h with ⟨hc, _⟩ | ⟨a, len, cap, m, D, Pl, hc, _, hl, _, hm, hx, hf⟩
    · simp at hc
      exact ⟨none, 0, [], hc, SlAt.nil _ _ _ _, Nat.zero_le _⟩
    · simp at hc
      subst hc hx
      have hb : Rows.uptoBulk (DataW.slice ((List.range len).map D) ((List.range (m - len)).map fun j => D (len + j))) = Rows.uptoBulkAll ((List.range len).map D) + Rows.uptoBulkAll ((List.range (m - len)).map fun j => D (len + j)) + 1 := by simp only [Rows.uptoBulk]
      rw [hb] at hk ⊢
      have each : ∀ i, i < len → ∃ x : Pt, PtAt W (fun _ => True) x (a.add (i * 6)) ∧ x.wt ≤ 8 * Rows.uptoBulk (D i) := by
        intro i hi
        have hDi : Rows.uptoBulk (D i) ≤ Rows.uptoBulkAll ((List.range len).map D) := bulk_mem (List.mem_map.2 ⟨i, List.mem_range.2 hi, rfl⟩)
        obtain ⟨ys, n, hD, _, hlen, hf⟩ := hf i (by rw [hm]; split <;> omega)
        rw [hD] at hDi ⊢
        match ys, hlen with
        | [y0, y1, y2, y3, y4, y5], _ =>
          obtain ⟨v0, z0, c0, q0, t0⟩ := hf 0 _ rfl
          obtain ⟨v1, z1, c1, q1, t1⟩ := hf 1 _ rfl
          obtain ⟨v2, z2, c2, q2, t2⟩ := hf 2 _ rfl
          obtain ⟨v3, z3, c3, q3, t3⟩ := hf 3 _ rfl
          obtain ⟨v4, z4, c4, q4, t4⟩ := hf 4 _ rfl
          obtain ⟨v5, z5, c5, q5, t5⟩ := hf 5 _ rfl
          obtain rfl := Option.some.inj q0
          obtain rfl := Option.some.inj q1
          obtain rfl := Option.some.inj q2
          obtain rfl := Option.some.inj q3
          obtain rfl := Option.some.inj q4
          obtain rfl := Option.some.inj q5
          obtain ⟨x0, rfl, _⟩ := fintcell Tryz.underlying3 t0
          obtain ⟨x1, rfl⟩ := fboolcell Tryz.underlying4 t1
          obtain ⟨x2, rfl, d2⟩ := fstrcell Tryz.underlying9 t2
          obtain ⟨x3, rfl, d3⟩ := fstrcell Tryz.underlying9 t3
          obtain ⟨x4, rfl, d4⟩ := fstrcell Tryz.underlying9 t4
          have b0 := bulk_one y0.1
          have b1 := bulk_one y1.1
          have hbi : Rows.uptoBulk (DataW.agg ([y0, y1, y2, y3, y4, y5].map (·.1))) = Rows.uptoBulk y0.1 + (Rows.uptoBulk y1.1 + ((x2.length + 1) + ((x3.length + 1) + ((x4.length + 1) + (Rows.uptoBulk y5.1 + 0))))) + 1 := by
            simp only [List.map_cons, List.map_nil, Rows.uptoBulk, Rows.uptoBulkAll, d2, d3, d4, bulk_str]
          rw [hbi] at hDi ⊢
          obtain ⟨p5, C5, l5, rfl, hs5, hw5⟩ := trod_parts k _ v5 y5 (by omega) t5
          refine ⟨.mk x0 x1 x2 x3 x4 l5, PtAt.of (v := .slice p5 l5.length C5) (fun j u hu => ?_) hs5, ?_⟩
          · rw [adds]
            match j, hu with
            | 0, hu => obtain rfl := Option.some.inj hu; exact c0
            | 1, hu => obtain rfl := Option.some.inj hu; exact c1
            | 2, hu => obtain rfl := Option.some.inj hu; exact c2
            | 3, hu => obtain rfl := Option.some.inj hu; exact c3
            | 4, hu => obtain rfl := Option.some.inj hu; exact c4
            | 5, hu => obtain rfl := Option.some.inj hu; exact c5
            | j + 6, hu => cases hu
          · simp only [Pt.wt_eq, Pt.t, Pt.n, Pt.o, Pt.w]
            omega
      have hall : ∀ k, k ≤ len → ∃ ls : List Pt, ls.length = k ∧ (∀ i x, ls[i]? = some x → PtAt W (fun _ => True) x (a.add (i * 6))) ∧ wtL ls ≤ 8 * Rows.uptoBulkAll ((List.range k).map D) := by
        intro k
        induction k with
        | zero => exact fun _ => ⟨[], rfl, fun i x h => by simp at h, Nat.zero_le _⟩
        | succ k ih =>
          intro hk
          obtain ⟨ls, h1, h2, h3⟩ := ih (by omega)
          obtain ⟨x, g1, g2⟩ := each k (by omega)
          refine ⟨ls ++ [x], by simp [h1], fun i z hz => ?_, ?_⟩
          · by_cases hi : i < ls.length
            · rw [List.getElem?_append_left hi] at hz
              exact h2 i z hz
            · rw [List.getElem?_append_right (by omega)] at hz
              have h0 : i - ls.length = 0 := by
                by_cases e : i - ls.length = 0
                · exact e
                · rw [List.getElem?_eq_none (by simp; omega)] at hz; cases hz
              rw [h0] at hz
              obtain rfl := Option.some.inj hz
              rw [show i = k by omega]
              exact g1
          · rw [List.range_succ, List.map_append, bulk_append, wtL_append, wtL_one]
            simp only [List.map_cons, List.map_nil, Rows.uptoBulkAll]
            omega
      obtain ⟨ls, h1, h2, h3⟩ := hall len (Nat.le_refl _)
      refine ⟨some a, cap, ls, by rw [h1], ⟨some a, cap, rfl, by omega, fun _ => ⟨a, rfl, trivial, PsAt.of h2⟩⟩, by omega⟩
end
end Go.Proofs.YthommfjiaalecaaGreatDoor
namespace Go.Proofs.YthommfjiaalecaaGreatDoor
open Go.ChangeShapes Go.WideShapes Go.ChangeAt Go.RowKit Go.Deep Vc
section
variable {H : Type} {enc : TypeId × Value → H} {W : World} {base b0 : Nat} {spare : Nat → Bool} {held : Bool} {r : Reach} {v : Value} {d : DataW H} {ps : List MemPlace} {α : Type}
def sumW (f : α → Nat) : List α → Nat
  | [] => 0
  | x :: r => f x + sumW f r
theorem sumW_append (f : α → Nat) : ∀ a b, sumW f (a ++ b) = sumW f a + sumW f b
  | [], b => by simp [sumW]
  | x :: a, b => by simp only [List.cons_append, sumW, sumW_append f a b]; omega
theorem sumW_words : ∀ l, wtW l = sumW (fun x => 2 + wtL x) l
  | [] => rfl
  | x :: r => by simp only [wtW, sumW, sumW_words r]
theorem sumW_pairs : ∀ l, wtP l = sumW (fun x => 2 + x.1.length + wtL x.2) l
  | [] => rfl
  | x :: r => by simp only [wtP, sumW, sumW_pairs r]
theorem sumW_ops : ∀ l, wtO l = sumW (fun x => 2 + x.length) l
  | [] => rfl
  | x :: r => by simp only [wtO, sumW, sumW_ops r]
theorem sumW_kids : ∀ l, wtNs l = sumW Nd.wt l
  | [] => rfl
  | x :: r => by simp only [wtNs, sumW, sumW_kids r]
set_option maxRecDepth 100000 in
theorem read_slice {e : Enc α} {c : Nat} (wt : α → Nat) {te ts : TypeId} (ht : Tryz.prog.underlying ts = some (.slice te)) (hC : Tryz.prog.cellsOf te = e.sz) {n : Nat} {cs : List Value} {y : DataW H × List MemPlace}
    (each : ∀ (n : Nat) (cs : List Value) (z : DataW H × List MemPlace), Rows.uptoBulk z.1 < Rows.uptoBulk y.1 → DataW.trod enc Tryz.prog W base spare held n te cs = some z → ∃ x, e.E W (fun _ => True) x cs ∧ wt x ≤ c * Rows.uptoBulk z.1)
    (h : DataW.trod enc Tryz.prog W base spare held n ts cs = some y) : ∃ l v, cs = [v] ∧ e.At W (fun _ => True) l v ∧ sumW wt l ≤ c * Rows.uptoBulk y.1 := by
  rcases open_slice ht h with ⟨hc, _⟩ | ⟨a, len, cap, m, n, D, Pl, hcs, hb, hl, hm, hmm, hx, hi⟩
  · exact ⟨[], _, hc, Enc.At.nil _ _ _ _ _, Nat.zero_le _⟩
  · subst hx
    have hbk : Rows.uptoBulk (DataW.slice ((List.range len).map D) ((List.range (m - len)).map fun j => D (len + j))) = Rows.uptoBulkAll ((List.range len).map D) + Rows.uptoBulkAll ((List.range (m - len)).map fun j => D (len + j)) + 1 := by simp only [Rows.uptoBulk]
    dsimp only at each ⊢
    rw [hbk] at each ⊢
    have hall : ∀ k, k ≤ len → ∃ (ls : List α) (xs : List Value), ls.length = k ∧ xs.length = k * e.sz ∧ e.Cs W (fun _ => True) ls xs ∧ (∀ (j : Nat) (u : Value), xs[j]? = some u → W.cell? (a.add j) = some u) ∧ sumW wt ls ≤ c * Rows.uptoBulkAll ((List.range k).map D) := by
      intro k
      induction k with
      | zero => exact fun _ => ⟨[], [], rfl, by simp, rfl, fun j u hu => (by cases hu), Nat.zero_le _⟩
      | succ k ih =>
        intro hk
        obtain ⟨ls, xs, h1, h2, h3, h4, h5⟩ := ih (by omega)
        obtain ⟨cs', hc, ht'⟩ := hi k (by rw [hmm]; split <;> omega)
        rw [hC] at hc
        obtain ⟨_, hcl, hat⟩ := World.cells?_some hc
        have hDk : Rows.uptoBulk (D k) ≤ Rows.uptoBulkAll ((List.range len).map D) := bulk_mem (List.mem_map.2 ⟨k, List.mem_range.2 (by omega), rfl⟩)
        obtain ⟨x, hx, hw⟩ := each _ _ _ (by dsimp only; omega) ht'
        refine ⟨ls ++ [x], xs ++ cs', by simp [h1], by rw [List.length_append, h2, hcl, Nat.succ_mul], h3.append (Enc.Cs.single hx), fun j u hu => ?_, ?_⟩
        · by_cases hj : j < xs.length
          · rw [List.getElem?_append_left hj] at hu
            exact h4 j u hu
          · rw [List.getElem?_append_right (by omega)] at hu
            have hj2 : j - xs.length < e.sz := by rw [← hcl]; exact (List.getElem?_eq_some_iff.1 hu).1
            have := hat (j - xs.length) hj2
            rw [hu, Go.Deep.add_add] at this
            rw [← this]
            congr 2
            rw [← h2]
            omega
        · rw [List.range_succ, List.map_append, bulk_append, sumW_append]
          simp only [List.map_cons, List.map_nil, Rows.uptoBulkAll, sumW, Nat.add_zero]
          dsimp only at hw
          rw [Nat.mul_add]
          omega
    obtain ⟨ls, xs, h1, h2, h3, h4, h5⟩ := hall len (Nat.le_refl _)
    refine ⟨ls, _, hcs, ⟨some a, cap, by rw [h1], by omega, fun _ => ⟨a, xs, rfl, trivial, h3, h4⟩⟩, ?_⟩
    have : c * Rows.uptoBulkAll ((List.range len).map D) ≤ c * (Rows.uptoBulkAll ((List.range len).map D) + Rows.uptoBulkAll ((List.range (m - len)).map fun j => D (len + j)) + 1) := Nat.mul_le_mul_left _ (by omega)
    omega
set_option maxRecDepth 100000 in
theorem read_word {n : Nat} {cs : List Value} {y : DataW H × List MemPlace} (h : DataW.trod enc Tryz.prog W base spare held n 41 cs = some y) : ∃ (l : List Pt) (v : Value), cs = [v] ∧ SlAt W (fun _ => True) l v ∧ wtL l ≤ 8 * Rows.uptoBulk y.1 := by
  have h' := h
  rcases open_slice Tryz.underlying41 h with ⟨hc, _⟩ | ⟨a, len, cap, m, n, D, Pl, hcs, _⟩
  · exact ⟨[], _, hc, SlAt.nil _ _ _ _, Nat.zero_le _⟩
  · subst hcs
    obtain ⟨p, C, l, h1, h2, h3⟩ := trod_parts _ _ _ _ (Nat.lt_succ_self _) h'
    exact ⟨l, _, rfl, by rw [h1]; exact h2, h3⟩
end
end Go.Proofs.YthommfjiaalecaaGreatDoor
namespace Go.Proofs.YthommfjiaalecaaGreatDoor
open Go.ChangeShapes Go.WideShapes Go.ChangeAt Go.RowKit Go.Deep Vc
section
variable {H : Type} {enc : TypeId × Value → H} {W : World} {base b0 : Nat} {spare : Nat → Bool} {held : Bool}
set_option maxRecDepth 100000 in
theorem read_pair {t : TypeId} {f0 f1 : Field} (ht : Tryz.prog.underlying t = some (.struct #[f0, f1])) (e0 : f0.type = 9) (o0 : f0.offset = 0) (e1 : f1.type = 41) (o1 : f1.offset = 1) (hC : Tryz.prog.cellsOf t = 2) {n : Nat} {cs : List Value} {y : DataW H × List MemPlace} (h : DataW.trod enc Tryz.prog W base spare held n t cs = some y) :
    ∃ x : Txt × List Pt, nsE.E W (fun _ => True) x cs ∧ 2 + x.1.length + wtL x.2 ≤ 8 * Rows.uptoBulk y.1 := by
  obtain ⟨y0, y1, m, rfl, hl, h0, h1⟩ := trod_struct2 ht h
  rw [hC] at hl
  match cs, hl with
  | [v0, v1], _ =>
    rw [e0, o0, show Tryz.prog.cellsOf 9 = 1 by kernel_rfl] at h0
    rw [e1, o1, show Tryz.prog.cellsOf 41 = 1 by kernel_rfl] at h1
    obtain ⟨s, rfl, hs⟩ := fstrcell Tryz.underlying9 h0
    obtain ⟨l, v, hv, hS, hw⟩ := read_word h1
    obtain rfl : v1 = v := by simpa using hv
    have hb : Rows.uptoBulk (DataW.agg [y0.1, y1.1]) = (s.length + 1) + (Rows.uptoBulk y1.1 + 0) + 1 := by
      simp only [Rows.uptoBulk, Rows.uptoBulkAll, hs, bulk_str]
    exact ⟨(s, l), ⟨v1, rfl, hS⟩, by dsimp only; rw [hb]; omega⟩
end
end Go.Proofs.YthommfjiaalecaaGreatDoor
namespace Go.Proofs.YthommfjiaalecaaGreatDoor
open Go.ChangeShapes Go.WideShapes Go.ChangeAt Go.RowKit Go.Deep Vc
section
variable {H : Type} {enc : TypeId × Value → H} {W : World} {base b0 : Nat} {spare : Nat → Bool} {held : Bool}
set_option maxRecDepth 100000 in
theorem read_node : ∀ (k n : Nat) (cs : List Value) (y : DataW H × List MemPlace), Rows.uptoBulk y.1 < k → DataW.trod enc Tryz.prog W base spare held n 28 cs = some y → ∃ x : Nd, ndE.E W (fun _ => True) x cs ∧ x.wt ≤ 10 * Rows.uptoBulk y.1
  | 0, _, _, _, h, _ => by omega
  | k + 1, n, cs, y, hk, h => by
    obtain ⟨xs, m, _, rfl, hl, hlen, hf⟩ := DataW.trod_struct Tryz.underlying28 h
    rw [show Tryz.prog.cellsOf 28 = 8 by kernel_rfl] at hl
    match xs, hlen, cs, hl with
    | [y0, y1, y2, y3, y4, y5, y6, y7], _, [v0, v1, v2, v3, v4, v5, v6, v7], _ =>
      have h0 : DataW.trod enc Tryz.prog W base spare held m 3 (([v0, v1, v2, v3, v4, v5, v6, v7].drop 0).take (Tryz.prog.cellsOf 3)) = some y0 := hf 0 _ rfl
      rw [show Tryz.prog.cellsOf 3 = 1 by kernel_rfl] at h0
      have h0 : DataW.trod enc Tryz.prog W base spare held m 3 [v0] = some y0 := h0
      have h1 : DataW.trod enc Tryz.prog W base spare held m 4 (([v0, v1, v2, v3, v4, v5, v6, v7].drop 1).take (Tryz.prog.cellsOf 4)) = some y1 := hf 1 _ rfl
      rw [show Tryz.prog.cellsOf 4 = 1 by kernel_rfl] at h1
      have h1 : DataW.trod enc Tryz.prog W base spare held m 4 [v1] = some y1 := h1
      have h2 : DataW.trod enc Tryz.prog W base spare held m 9 (([v0, v1, v2, v3, v4, v5, v6, v7].drop 2).take (Tryz.prog.cellsOf 9)) = some y2 := hf 2 _ rfl
      rw [show Tryz.prog.cellsOf 9 = 1 by kernel_rfl] at h2
      have h2 : DataW.trod enc Tryz.prog W base spare held m 9 [v2] = some y2 := h2
      have h3 : DataW.trod enc Tryz.prog W base spare held m 22 (([v0, v1, v2, v3, v4, v5, v6, v7].drop 3).take (Tryz.prog.cellsOf 22)) = some y3 := hf 3 _ rfl
      rw [show Tryz.prog.cellsOf 22 = 1 by kernel_rfl] at h3
      have h3 : DataW.trod enc Tryz.prog W base spare held m 22 [v3] = some y3 := h3
      have h4 : DataW.trod enc Tryz.prog W base spare held m 23 (([v0, v1, v2, v3, v4, v5, v6, v7].drop 4).take (Tryz.prog.cellsOf 23)) = some y4 := hf 4 _ rfl
      rw [show Tryz.prog.cellsOf 23 = 1 by kernel_rfl] at h4
      have h4 : DataW.trod enc Tryz.prog W base spare held m 23 [v4] = some y4 := h4
      have h5 : DataW.trod enc Tryz.prog W base spare held m 24 (([v0, v1, v2, v3, v4, v5, v6, v7].drop 5).take (Tryz.prog.cellsOf 24)) = some y5 := hf 5 _ rfl
      rw [show Tryz.prog.cellsOf 24 = 1 by kernel_rfl] at h5
      have h5 : DataW.trod enc Tryz.prog W base spare held m 24 [v5] = some y5 := h5
      have h6 : DataW.trod enc Tryz.prog W base spare held m 25 (([v0, v1, v2, v3, v4, v5, v6, v7].drop 6).take (Tryz.prog.cellsOf 25)) = some y6 := hf 6 _ rfl
      rw [show Tryz.prog.cellsOf 25 = 1 by kernel_rfl] at h6
      have h6 : DataW.trod enc Tryz.prog W base spare held m 25 [v6] = some y6 := h6
      have h7 : DataW.trod enc Tryz.prog W base spare held m 26 (([v0, v1, v2, v3, v4, v5, v6, v7].drop 7).take (Tryz.prog.cellsOf 26)) = some y7 := hf 7 _ rfl
      rw [show Tryz.prog.cellsOf 26 = 1 by kernel_rfl] at h7
      have h7 : DataW.trod enc Tryz.prog W base spare held m 26 [v7] = some y7 := h7
      obtain ⟨x0, rfl, _⟩ := fintcell Tryz.underlying3 h0
      obtain ⟨x1, rfl⟩ := fboolcell Tryz.underlying4 h1
      obtain ⟨x2, rfl, d2⟩ := fstrcell Tryz.underlying9 h2
      have hb : Rows.uptoBulk (DataW.agg ([y0, y1, y2, y3, y4, y5, y6, y7].map (·.1))) = Rows.uptoBulk y0.1 + (Rows.uptoBulk y1.1 + ((x2.length + 1) + (Rows.uptoBulk y3.1 + (Rows.uptoBulk y4.1 + (Rows.uptoBulk y5.1 + (Rows.uptoBulk y6.1 + (Rows.uptoBulk y7.1 + 0))))))) + 1 := by
        simp only [List.map_cons, List.map_nil, Rows.uptoBulk, Rows.uptoBulkAll, d2, bulk_str]
      dsimp only at hk ⊢
      rw [hb] at hk ⊢
      obtain ⟨ws, w3, e3, hws, b3⟩ := read_slice (e := wsE) (c := 10) (fun x => 2 + wtL x) Tryz.underlying22 (by kernel_rfl) (fun n cs z _ h => by
        obtain ⟨l, v, rfl, hS, hw⟩ := read_word h
        have := bulk_one z.1
        exact ⟨l, ⟨v, rfl, hS⟩, by omega⟩) h3
      obtain ⟨as', w4, e4, has, b4⟩ := read_slice (e := nsE) (c := 10) (fun x => 2 + x.1.length + wtL x.2) Tryz.underlying23 (by kernel_rfl) (fun n cs z _ h => by
        obtain ⟨x, hx, hw⟩ := read_pair Tryz.underlying43 rfl rfl rfl rfl (by kernel_rfl) h
        exact ⟨x, hx, by omega⟩) h4
      obtain ⟨rs, w5, e5, hrs, b5⟩ := read_slice (e := nsE) (c := 10) (fun x => 2 + x.1.length + wtL x.2) Tryz.underlying24 (by kernel_rfl) (fun n cs z _ h => by
        obtain ⟨x, hx, hw⟩ := read_pair Tryz.underlying45 rfl rfl rfl rfl (by kernel_rfl) h
        exact ⟨x, hx, by omega⟩) h5
      obtain ⟨os, w6, e6, hos, b6⟩ := read_slice (e := osE) (c := 10) (fun x => 2 + x.length) Tryz.underlying25 (by kernel_rfl) (fun n cs z _ h => by
        obtain ⟨⟨⟨l⟩⟩, hc, hy, _⟩ := DataW.trod_string Tryz.underlying9 h
        refine ⟨l, hc, ?_⟩
        rw [show z.1 = .lit (.string l) by rw [hy], bulk_str]
        omega) h6
      obtain ⟨ks, w7, e7, hks, b7⟩ := read_slice (e := ndE) (c := 10) Nd.wt Tryz.underlying26 (by kernel_rfl) (fun n cs z hz h => read_node k n cs z (by omega) h) h7
      obtain rfl : v3 = w3 := by simpa using e3
      obtain rfl : v4 = w4 := by simpa using e4
      obtain rfl : v5 = w5 := by simpa using e5
      obtain rfl : v6 = w6 := by simpa using e6
      obtain rfl : v7 = w7 := by simpa using e7
      rw [← sumW_words] at b3
      rw [← sumW_pairs] at b4 b5
      rw [← sumW_ops] at b6
      rw [← sumW_kids] at b7
      refine ⟨.mk x0 x1 x2 ws as' rs os ks, NdE.of (x := .mk x0 x1 x2 ws as' rs os ks) hws has hrs hos hks, ?_⟩
      rw [Nd.wt_eq]
      simp only [Nd.nm, Nd.ws, Nd.as, Nd.rs, Nd.os, Nd.ks]
      omega
end
end Go.Proofs.YthommfjiaalecaaGreatDoor
namespace Go.Proofs.YthommfjiaalecaaGreatDoor
open Go.ChangeShapes Go.WideShapes Go.ChangeAt Go.RowKit Vc
section
variable {H : Type} {enc : TypeId × Value → H} {W : World} {base b0 : Nat} {spare : Nat → Bool} {held : Bool} {r : Reach} {v : Value} {d : DataW H} {ps : List MemPlace}
set_option maxRecDepth 100000 in
theorem open_node (hval : Value.okWide Tryz.prog W r b0 28 v) (h : DataW.Trod enc Tryz.prog W base spare held 28 v d ps) (_ : Sized Tryz.prog 28 d) (hb : Rows.uptoBulkAll [d] ≤ 1048576) : ∃ cs x, v = .agg ⟨cs⟩ ∧ NdE W (fun _ => True) x cs ∧ x.wt ≤ 800000000 := by
  unfold Value.okWide at hval
  simp only [Tryz.underlying28] at hval
  obtain ⟨⟨cs⟩, rfl, _, _⟩ := hval
  obtain ⟨fuel, h⟩ := h
  obtain ⟨x, hx, hw⟩ := read_node _ fuel cs _ (Nat.lt_succ_self _) h
  simp only [Rows.uptoBulkAll] at hb
  exact ⟨cs, x, rfl, hx, by dsimp only at hw; omega⟩
end
end Go.Proofs.YthommfjiaalecaaGreatDoor
