/- The reference's parser of words, walked. Conditions: texts of fewer than a million bytes. -/
import Derived.Test.YtckcdbkggaoomaaDoorWdRefD
namespace Go.Proofs.YtckcdbkggaoomaaDoor
open Go.RowKit Vc
variable {w : World}

set_option maxHeartbeats 1000000 in
theorem ref_parts_of {L : Nat} (hL : L ≤ 30) (ih : RPartsS L) (s : Txt) (hl : s.length < 1000000) : Calls Tryd.prog fn_ref08_parts #[.string (S s), .int .i64 (30 - (L : Int))] w (RPost w s (L + 1)) := by
  refine ref08_parts_calls _ _ _ _ ?_
  refine bsel_of (fun h => absurd (of_decide_eq_true h) (by omega)) (fun _ => ?_)
  have hwp : wpL (L + 1) s = loopF (outOne (wpL L)) (s.length + 1) [] s := rfl
  refine ⟨fun s1 out n c w2 => ∃ acc, SlAt w2 (fun k => w.heap.size ≤ k) acc (.slice out n c) ∧ Still w w2 ∧ s1.length ≤ s.length ∧ loopF (outOne (wpL L)) (s1.length + 1) acc s1 = loopF (outOne (wpL L)) (s.length + 1) [] s ∧ wtL acc + 12 * s1.length ≤ 12 * s.length, fun s1 _ _ _ _ => s1.length, ⟨[], SlAt.nil _ _ _ _, Still.refl _, Nat.le_refl _, rfl, by simp [wtL]⟩, ?_⟩
  rintro s1 out n c _ w2 ⟨acc, hacc, s2, hle, hlp, hwt⟩
  obtain ⟨rfl, hcap⟩ := hacc.len
  refine bsel_of (fun hx => ?_) (fun hx => ?_)
  rotate_left
  · have hx : s1 = [] := List.eq_nil_of_length_eq_zero (by have := of_decide_eq_false hx; omega)
    subst hx
    refine ⟨?_, s2⟩
    rw [hwp, ← hlp]
    exact ⟨_, rfl, hacc⟩
  obtain ⟨b, y, rfl⟩ : ∃ b y, s1 = b :: y := by
    cases s1 with
    | nil => exact absurd (of_decide_eq_true hx) (by decide)
    | cons b y => exact ⟨b, y, rfl⟩
  rw [loop_step (outOne_takes _)] at hlp
  have hlc : (b :: y).length < 1000000 := by omega
  have hz := s2.size
  refine ⟨by decide, by simp only [List.length_cons]; omega, boxK rfl (by simp [Value.oneCell']) fun w4 r4 s4 z4 => ?_⟩
  have r4 : Row w4 w2.heap.size 39 ⟨pcell (tx false [b]) (.slice none 0 0)⟩ := r4
  refine ⟨fun n ex w7 => ∃ (x : Pt) (wp : Option Addr) (wc : Nat), Row w7 w2.heap.size 39 ⟨pcell x (.slice wp x.w.length wc)⟩ ∧ SlAt w7 (fun k => w2.heap.size < k) x.w (.slice wp x.w.length wc) ∧ Still w2 w7 ∧ (b ≠ 34 → match outOne (wpL L) (b :: y) with
      | .ok p => ex = 0 ∧ p.1 = [x] ∧ n = (p.2 : Int)
      | .bad k => ex = (k : Int)) ∧ (b = 34 → ex = 0 ∧ ∃ m : Nat, n = (m : Int) ∧ m ≤ (b :: y).length ∧ x.t.length + 2 ≤ m ∧ outOne (wpL L) (b :: y) = (dblF (wpL L) x.t).and fun l => .ok (l, m)), ⟨by decide, b, rfl, fun t w4' => w4' = w4 ∧ (t = true ↔ (b = 92 ∨ b = 39 ∨ b = 34)), bsel_of (fun g => ⟨rfl, fun _ => .inl (byte_eq.1 (of_decide_eq_true g)), fun _ => g⟩) (fun g => bsel_of (fun g2 => ⟨rfl, fun _ => .inr (.inl (byte_eq.1 (of_decide_eq_true g2))), fun _ => g2⟩) (fun g2 => ⟨rfl, fun e => .inr (.inr (byte_eq.1 (of_decide_eq_true e))), fun e => decide_eq_true (byte_eq.2 ((e.resolve_left fun e => of_decide_eq_false g (byte_eq.2 e)).resolve_left fun e => of_decide_eq_false g2 (byte_eq.2 e)))⟩)), ?_⟩, ?_⟩
  · rintro t _ w4' ⟨rfl, ht⟩
    refine bsel_of (fun g => ?_) (fun g => bsel_of (fun h36 => ?_) (fun h36 => ?_))
    · have hb := ht.1 g
      have h36 : ¬ b = 36 := by rcases hb with rfl | rfl | rfl <;> decide
      have hout : outOne (wpL L) (b :: y) = (match unitD 30 (b :: y) with
          | none => .bad 90
          | some t =>
            if b = 92 then .ok ([tx true (y.take 1)], 2)
            else if b = 34 then (dblF (wpL L) (y.take (y.length - t.length - 1))).and fun l => .ok (l, y.length + 1 - t.length)
            else .ok ([tx true (y.take (y.length - t.length - 1))], y.length + 1 - t.length)) := by
        simp only [outOne]
        rw [if_neg h36, if_pos hb]
        cases unitD 30 (b :: y) <;> rfl
      refine (ref_skip_spec (b :: y) 0 (by simp) hlc).mono ?_
      rintro _ w5 ⟨rfl, rfl⟩
      rw [List.drop_zero]
      refine .inl ⟨_, rfl, ?_⟩
      cases hu : unitD 30 (b :: y) with
      | none =>
        rw [hu] at hout
        have hout : outOne (wpL L) (b :: y) = .bad 90 := hout
        refine bsel_of (fun _ => ⟨?_, s2.trans s4⟩) (fun h => absurd (show (-1 : Int) < 0 by decide) (of_decide_eq_false h))
        rw [hout] at hlp
        rw [hwp, ← hlp]
        rfl
      | some t =>
        obtain ⟨h1, h2, h3⟩ := unitN_pos hu
        rw [hu] at hout
        dsimp only at hout
        have hix : ix (b :: y) (some t) = (unitN (b :: y) : Int) := by rw [h1]; rfl
        rw [hix]
        generalize unitN (b :: y) = n at h1 h2 h3 ⊢
        simp only [List.length_cons] at h1 h3
        have hlc' : y.length + 1 < 1000000 := hlc
        have h92 : b = 92 → ∃ a, y = a :: t := by
          rintro rfl
          cases y with
          | nil => cases hu
          | cons a z =>
            have : some z = some t := hu
            injection this with this
            exact ⟨a, by rw [this]⟩
        have h5 : 2 ≤ n := by
          rcases Decidable.em (b = 92) with e | e
          · obtain ⟨a, rfl⟩ := h92 e
            simp only [List.length_cons] at h1
            omega
          · have := quote_len (hb.resolve_left e) hu
            omega
        have e1 : IntKind.i64.wrap ((n : Int) - 1) = ((n - 1 : Nat) : Int) := by rw [wrap_i64 (by omega) (by omega)]; omega
        rw [e1]
        have hin : (((b :: y : Txt).drop (Int.toNat 1)).take (Int.toNat ((n - 1 : Nat) : Int) - Int.toNat 1)) = y.take (n - 2) := by
          rw [Int.toNat_natCast]
          show y.take (n - 1 - 1) = _
          congr 1
        have e2 : y.length + 1 - t.length = n := by omega
        have e3 : y.length - t.length - 1 = n - 2 := by omega
        rw [e2, e3] at hout
        rw [hin]
        refine bsel_of (fun h => absurd (of_decide_eq_true h) (by omega)) (fun _ => ⟨by decide, by omega, by simp only [List.length_cons]; omega, stK r4 (by simp [pcell]) (by simp [Value.oneCell']) fun w6 r6 m6 z6 => ?_⟩)
        have r6 : Row w6 w2.heap.size 39 ⟨pcell (tx true (y.take (n - 2))) (.slice none 0 0)⟩ := r6
        have s6 := s4.box (Nat.le_refl _) m6
        refine ⟨by decide, b, rfl, bsel_of (fun g2 => ?_) (fun g2 => ?_)⟩
        · have g2 : b = 92 := byte_eq.1 (of_decide_eq_true g2)
          obtain ⟨a, rfl⟩ := h92 g2
          rw [if_pos g2] at hout
          simp only [List.length_cons] at h1
          refine ⟨by decide, by decide, by simp only [List.length_cons]; omega, stK r6 (by simp [pcell]) (by simp [Value.oneCell']) fun w7 r7 m7 z7 => ⟨tx true [a], none, 0, r7, SlAt.nil _ _ _ _, s6.box (Nat.le_refl _) m7, fun _ => ?_, fun e => ?_⟩⟩
          · rw [hout]
            exact ⟨rfl, rfl, by dsimp only; omega⟩
          · rw [g2] at e
            exact absurd e (by decide)
        · have g2 : ¬ b = 92 := fun e => of_decide_eq_false g2 (byte_eq.2 e)
          rw [if_neg g2] at hout
          refine ⟨tx true (y.take (n - 2)), none, 0, r6, SlAt.nil _ _ _ _, s6, fun e => ?_, fun e => ?_⟩
          · rw [if_neg e] at hout
            rw [hout]
            exact ⟨rfl, rfl, rfl⟩
          · rw [if_pos e] at hout
            refine ⟨rfl, n, rfl, by simp only [List.length_cons]; omega, ?_, hout⟩
            show (y.take (n - 2)).length + 2 ≤ n
            rw [List.length_take]
            omega
    · have h36 : b = 36 := byte_eq.1 (of_decide_eq_true h36)
      subst h36
      refine (ref_dollar_of hL ih y false hlc).mono ?_
      rintro e5 w5 ⟨⟨x, vw, n, hsl, hm⟩, s5⟩
      obtain ⟨wp, wc, rfl⟩ := hsl.form
      have z5 := s5.size
      have key : ∃ k : Nat, e5 = .returned (.tuple #[pagg x (.slice wp x.w.length wc), .int .i64 (n : Int), .int .i64 (k : Int)]) ∧ (match dollarF (wpL L) false (36 :: y) with
          | .ok p => k = 0 ∧ p = (x, n)
          | .bad j => k = j) := by
        cases hb : dollarF (wpL L) false (36 :: y) with
        | ok p =>
          rw [hb] at hm
          exact ⟨0, hm.1, rfl, hm.2⟩
        | bad j =>
          rw [hb] at hm
          exact ⟨j, hm, rfl⟩
      obtain ⟨k, he, hk⟩ := key
      refine .inl ⟨x.k, x.q, x.t, x.n, x.o, wp, x.w.length, wc, (n : Int), (k : Int), he, stK (r4.still s5) (by simp [pcell]) one6 fun w6 r6 m6 z6 => ⟨x, wp, wc, r6, (hsl.mod m6 fun j hj e => by omega).mono fun j hj => by omega, (s4.trans s5).box (Nat.le_refl _) m6, fun _ => ?_, fun e => absurd e (by decide)⟩⟩
      have hout : outOne (wpL L) (36 :: y) = (dollarF (wpL L) false (36 :: y)).and fun x => .ok ([x.1], x.2) := by simp only [outOne, if_true]
      rw [hout]
      cases hb : dollarF (wpL L) false (36 :: y) with
      | ok p =>
        rw [hb] at hk
        obtain ⟨rfl, rfl⟩ := hk
        exact ⟨rfl, rfl, rfl⟩
      | bad j =>
        rw [hb] at hk
        have hk : k = j := hk
        subst hk
        rfl
    · have h36 : ¬ b = 36 := fun e => of_decide_eq_false h36 (byte_eq.2 e)
      have hno : ¬ (b = 92 ∨ b = 39 ∨ b = 34) := fun e => by rw [ht.2 e] at g; cases g
      refine ⟨tx false [b], none, 0, r4, SlAt.nil _ _ _ _, s4, fun _ => ?_, fun e => absurd (.inr (.inr e)) hno⟩
      have hout : outOne (wpL L) (b :: y) = .ok ([tx false [b]], 1) := by
        simp only [outOne]
        rw [if_neg h36, if_neg hno]
      rw [hout]
      exact ⟨rfl, rfl, rfl⟩
  rintro n ex _ w10 ⟨x, wp, wc, r10, hsl10, s10, hx1, hx2⟩
  have z10 : w2.heap.size < w10.heap.size := r10.lt
  have s210 := s2.trans s10
  -- an error
  have err : ∀ (k : Nat) (w9 : World), outOne (wpL L) (b :: y) = .bad k → Still w w9 → RPost w s (L + 1) (.returned (.tuple #[.slice none 0 0, .int .i64 (k : Int)])) w9 := by
    intro k w9 ho s9
    refine ⟨?_, s9⟩
    rw [ho] at hlp
    rw [hwp, ← hlp]
    rfl
  by_cases h34 : b = 34
  · obtain ⟨rfl, m, rfl, hml, hxt, hout⟩ := hx2 h34
    rw [hout] at hlp
    refine bsel_of (fun hh => absurd rfl (nt hh)) (fun _ => ⟨by decide, b, rfl, bsel_of (fun hh => absurd (byte_eq.2 h34) (nt hh)) (fun _ => ⟨_, r10.lget rfl, (ref_double_of hL ih x.t (by omega)).mono ?_⟩)⟩)
    rintro e12 w12 ⟨hq, s12⟩
    cases hd : dblF (wpL L) x.t with
    | bad k =>
      rw [hd] at hq
      have hk : k ≠ 0 := fun e => dblF_nz (wpL_nz L) x.t (by rw [hd, e])
      refine .inl ⟨_, _, _, _, hq, bsel_of (fun _ => err k _ (by rw [hout, hd]; rfl) (s210.trans s12)) (fun hh => absurd (nf hh) (by omega))⟩
    | ok l =>
      rw [hd] at hq hlp
      obtain ⟨v, rfl, hsl⟩ := hq
      obtain ⟨p12, c12, rfl⟩ := hsl.form
      have hlw := dblF_wt (wpL_wt L) hd
      have hln := wtL_len l
      have zz := s210.size
      refine .inl ⟨_, _, _, _, rfl, bsel_of (fun hh => absurd rfl (nt hh)) (fun _ => ?_)⟩
      refine ⟨fun out1 n1 c1 i w13 => ∃ k : Nat, i = (k : Int) ∧ k ≤ l.length ∧ SlAt w13 (fun j => w.heap.size ≤ j) ((l.take k).foldl addP acc) (.slice out1 n1 c1) ∧ SlAt w13 (fun j => w.heap.size ≤ j) l (.slice p12 l.length c12) ∧ Still w w13, fun _ _ _ i _ => l.length - i.toNat, ⟨0, rfl, Nat.zero_le _, hacc.still (s10.trans s12), hsl.mono fun k hk => by omega, s210.trans s12⟩, ?_⟩
      rintro out1 n1 c1 _ _ w13 ⟨k, rfl, hk, hacc13, hsl13, s13⟩
      obtain ⟨rfl, _⟩ := hacc13.len
      refine bsel_of (fun hx => ?_) (fun hx => ?_)
      · have hx : k < l.length := by have := of_decide_eq_true hx; omega
        obtain ⟨a, wp1, wc1, rfl, c0, c1, c2, c3, c4, c5, hsw⟩ := hsl13.fields hx
        have hwf := wt_fold (l.take k) acc
        have hwk := wt_take hx
        rw [Int.toNat_natCast]
        refine ⟨by omega, by omega, _, _, _, _, _, _, _, _, c0, c1, c2, c3, c4, c5, (ref_Add_spec (x := l[k]) (N := w.heap.size) hacc13 s13.size hsw (by omega)).mono ?_⟩
        rintro _ w14 ⟨v14, rfl, hsl14, s14⟩
        obtain ⟨p14, c14, rfl⟩ := hsl14.form
        have e1 : IntKind.i64.wrap ((k : Int) + 1) = ((k + 1 : Nat) : Int) := by rw [wrap_i64 (by omega) (by omega)]; omega
        rw [e1]
        refine .inl ⟨_, _, _, rfl, ⟨k + 1, rfl, hx, ?_, hsl13.still s14, s13.trans s14⟩, by dsimp only; omega⟩
        rw [fold_take hx]
        exact hsl14
      · have hx : k = l.length := by have := of_decide_eq_false hx; omega
        subst hx
        rw [List.take_length] at hacc13
        have hdl : ((b :: y).drop m).length = (b :: y).length - m := List.length_drop
        have hwf := wt_fold l acc
        refine ⟨by omega, by omega, ?_⟩
        rw [Int.toNat_natCast]
        simp only [Rs.and] at hlp
        exact ⟨⟨l.foldl addP acc, by rw [List.take_length]; exact hacc13, s13, by omega, hlp, by omega⟩, by dsimp only; omega⟩
  · have hx := hx1 h34
    cases ho : outOne (wpL L) (b :: y) with
    | bad k =>
      rw [ho] at hx
      have hk : k ≠ 0 := fun e => outOne_nz (wpL_nz L) b y (by rw [ho, e])
      have hx : ex = (k : Int) := hx
      subst hx
      exact bsel_of (fun _ => err k _ ho s210) (fun hh => absurd (nf hh) (by omega))
    | ok p =>
      rw [ho] at hx hlp
      obtain ⟨rfl, hp1, rfl⟩ := hx
      have hbe := outOne_bears (wpL_wt L) _ _ ho
      have hta := outOne_takes _ _ _ ho
      rw [hp1, wtL_one] at hbe
      refine bsel_of (fun hh => absurd rfl (nt hh)) (fun _ => ⟨by decide, b, rfl, bsel_of (fun _ => ⟨_, _, _, _, _, _, _, _, r10.lget rfl, r10.lget rfl, r10.lget rfl, r10.lget rfl, r10.lget rfl, r10.lget rfl, (ref_Add_spec (x := x) (N := w.heap.size) (hacc.still s10) (by omega) (hsl10.mono fun k hk => by omega) (by omega)).mono ?_⟩) (fun hh => absurd (byte_eq.1 (nf hh)) h34)⟩)
      rintro _ w11 ⟨v11, rfl, hsl11, s11⟩
      obtain ⟨p11, c11, rfl⟩ := hsl11.form
      have hdl : ((b :: y).drop p.2).length = (b :: y).length - p.2 := List.length_drop
      have hwa := wt_add acc x
      refine .inl ⟨_, _, _, rfl, by omega, by omega, ?_⟩
      rw [Int.toNat_natCast]
      simp only [Rs.and, hp1, List.foldl_cons, List.foldl_nil] at hlp
      exact ⟨⟨addP acc x, hsl11, s210.trans s11, by omega, hlp, by omega⟩, by dsimp only; omega⟩
theorem ref_parts_lv : ∀ L, L ≤ 31 → RPartsS L
  | 0, _ => by
    intro w s hs
    refine ref08_parts_calls _ _ _ _ ?_
    exact bsel_of (fun _ => ⟨rfl, Still.refl _⟩) (fun h => absurd (of_decide_eq_false h) (by decide))
  | L + 1, hL => by
    intro w s hs
    have e1 : (31 : Int) - ((L + 1 : Nat) : Int) = 30 - (L : Int) := by omega
    rw [e1]
    exact ref_parts_of (by omega) (ref_parts_lv L (by omega)) s hs
/-- ref08.Parse. -/
theorem ref_Parse_spec (s : Txt) (hs : s.length < 1000000) : Calls Tryd.prog fn_ref08_Parse #[.string (S s)] w (RPost w s 30) := by
  refine ref08_Parse_calls _ _ _ ?_
  refine (ref_parts_lv 30 (by decide) w s hs).mono ?_
  rintro e w1 h
  unfold RPost at h ⊢
  obtain ⟨h, s1⟩ := h
  cases hw : wpL 30 s with
  | bad k =>
    rw [hw] at h
    exact .inl ⟨_, _, _, _, h, rfl, s1⟩
  | ok l =>
    rw [hw] at h
    obtain ⟨v, rfl, hsl⟩ := h
    obtain ⟨p, c, rfl⟩ := hsl.form
    exact .inl ⟨_, _, _, _, rfl, ⟨_, rfl, hsl⟩, s1⟩
end Go.Proofs.YtckcdbkggaoomaaDoor
