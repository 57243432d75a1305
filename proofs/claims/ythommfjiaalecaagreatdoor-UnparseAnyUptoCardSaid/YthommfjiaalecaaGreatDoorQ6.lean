/- Texts of one proof, one behind the other. Conditions: as each theorem names them. -/
import Derived.Test.YthommfjiaalecaaGreatDoorQ5
import Derived.Lib.IndexLaws
namespace Go.Proofs.YthommfjiaalecaaGreatDoor
open Go.RowKit Vc
variable {w : World}
set_option maxHeartbeats 1000000 in
theorem ref_parts_of {L : Nat} (hL : L ≤ 30) (ih : RPartsS L) (s : Txt) (hl : s.length < 1000000) : Calls Tryz.prog fn_ref08_parts #[.string (S s), .int .i64 (30 - (L : Int))] w (RPost w s (L + 1)) := by
  refine ref08_parts_calls _ _ _ _ ?_
  refine bsel_of (fun h => absurd (of_decide_eq_true h) (by omega)) (fun _ => ?_)
  have hwp : wpL (L + 1) s = loopF (outOne (wpL L)) (s.length + 1) [] s := rfl
  refine ⟨fun s1 out n c w2 => ∃ acc, SlAt w2 (fun k => w.heap.size ≤ k) acc (.slice out n c) ∧ Still w w2 ∧ s1.length ≤ s.length ∧ loopF (outOne (wpL L)) (s1.length + 1) acc s1 = loopF (outOne (wpL L)) (s.length + 1) [] s ∧ wtL acc + 12 * s1.length ≤ 12 * s.length, fun s1 _ _ _ _ => s1.length, ⟨[], SlAt.nil _ _ _ _, Still.refl _, Nat.le_refl _, rfl, by simp [wtL]⟩, ?_⟩
  rintro s1 out n c _ w2 ⟨acc, hacc, s2, hle, hlp, hwt⟩
  obtain ⟨rfl, hcap⟩ := hacc.len
  refine bsel_of (fun hx => ?_) (fun hx => ?_)
  rotate_left
  · have hx : s1 = [] := List.eq_nil_of_length_eq_zero (by have := of_decide_eq_false hx; omega)
    subst hx
    refine ⟨?_, s2⟩
    rw [hwp, ← hlp]
    exact ⟨_, rfl, hacc⟩
  obtain ⟨b, y, rfl⟩ : ∃ b y, s1 = b :: y := by
    cases s1 with
    | nil => exact absurd (of_decide_eq_true hx) (by decide)
    | cons b y => exact ⟨b, y, rfl⟩
  rw [loop_step (outOne_takes _)] at hlp
  have hlc : (b :: y).length < 1000000 := by omega
  have hz := s2.size
  refine ⟨by decide, by simp only [List.length_cons]; omega, boxK rfl (by simp [Value.oneCell']) fun w4 r4 s4 z4 => ?_⟩
  have r4 : Row w4 w2.heap.size 63 ⟨pcell (tx false [b]) (.slice none 0 0)⟩ := r4
  refine ⟨fun n ex w7 => ∃ (x : Pt) (wp : Option Addr) (wc : Nat), Row w7 w2.heap.size 63 ⟨pcell x (.slice wp x.w.length wc)⟩ ∧ SlAt w7 (fun k => w2.heap.size < k) x.w (.slice wp x.w.length wc) ∧ Still w2 w7 ∧ (b ≠ 34 → match outOne (wpL L) (b :: y) with
      | .ok p => ex = 0 ∧ p.1 = [x] ∧ n = (p.2 : Int)
      | .bad k => ex = (k : Int)) ∧ (b = 34 → ex = 0 ∧ ∃ m : Nat, n = (m : Int) ∧ m ≤ (b :: y).length ∧ x.t.length + 2 ≤ m ∧ outOne (wpL L) (b :: y) = (dblF (wpL L) x.t).and fun l => .ok (l, m)), ⟨by decide, b, rfl, fun t w4' => w4' = w4 ∧ (t = true ↔ (b = 92 ∨ b = 39 ∨ b = 34)), bsel_of (fun g => ⟨rfl, fun _ => .inl (byte_eq.1 (of_decide_eq_true g)), fun _ => g⟩) (fun g => bsel_of (fun g2 => ⟨rfl, fun _ => .inr (.inl (byte_eq.1 (of_decide_eq_true g2))), fun _ => g2⟩) (fun g2 => ⟨rfl, fun e => .inr (.inr (byte_eq.1 (of_decide_eq_true e))), fun e => decide_eq_true (byte_eq.2 ((e.resolve_left fun e => of_decide_eq_false g (byte_eq.2 e)).resolve_left fun e => of_decide_eq_false g2 (byte_eq.2 e)))⟩)), ?_⟩, ?_⟩
  · rintro t _ w4' ⟨rfl, ht⟩
    refine bsel_of (fun g => ?_) (fun g => bsel_of (fun h36 => ?_) (fun h36 => ?_))
    · have hb := ht.1 g
      have h36 : ¬ b = 36 := by rcases hb with rfl | rfl | rfl <;> decide
      have hout : outOne (wpL L) (b :: y) = (match unitD 30 (b :: y) with
          | none => .bad 90
          | some t =>
            if b = 92 then .ok ([tx true (y.take 1)], 2)
            else if b = 34 then (dblF (wpL L) (y.take (y.length - t.length - 1))).and fun l => .ok (l, y.length + 1 - t.length)
            else .ok ([tx true (y.take (y.length - t.length - 1))], y.length + 1 - t.length)) := by
        simp only [outOne]
        rw [if_neg h36, if_pos hb]
        cases unitD 30 (b :: y) <;> rfl
      refine (ref_skip_spec (b :: y) 0 (by simp) hlc).mono ?_
      rintro _ w5 ⟨rfl, rfl⟩
      rw [List.drop_zero]
      refine .inl ⟨_, rfl, ?_⟩
      cases hu : unitD 30 (b :: y) with
      | none =>
        rw [hu] at hout
        have hout : outOne (wpL L) (b :: y) = .bad 90 := hout
        refine bsel_of (fun _ => ⟨?_, s2.trans s4⟩) (fun h => absurd (show (-1 : Int) < 0 by decide) (of_decide_eq_false h))
        rw [hout] at hlp
        rw [hwp, ← hlp]
        rfl
      | some t =>
        obtain ⟨h1, h2, h3⟩ := unitN_pos hu
        rw [hu] at hout
        dsimp only at hout
        have hix : ix (b :: y) (some t) = (unitN (b :: y) : Int) := by rw [h1]; rfl
        rw [hix]
        generalize unitN (b :: y) = n at h1 h2 h3 ⊢
        simp only [List.length_cons] at h1 h3
        have hlc' : y.length + 1 < 1000000 := hlc
        have h92 : b = 92 → ∃ a, y = a :: t := by
          rintro rfl
          cases y with
          | nil => cases hu
          | cons a z =>
            have : some z = some t := hu
            injection this with this
            exact ⟨a, by rw [this]⟩
        have h5 : 2 ≤ n := by
          rcases Decidable.em (b = 92) with e | e
          · obtain ⟨a, rfl⟩ := h92 e
            simp only [List.length_cons] at h1
            omega
          · have := quote_len (hb.resolve_left e) hu
            omega
        have e1 : IntKind.i64.wrap ((n : Int) - 1) = ((n - 1 : Nat) : Int) := by rw [wrap_i64 (by omega) (by omega)]; omega
        rw [e1]
        have hin : (((b :: y : Txt).drop (Int.toNat 1)).take (Int.toNat ((n - 1 : Nat) : Int) - Int.toNat 1)) = y.take (n - 2) := by
          rw [Int.toNat_natCast]
          show y.take (n - 1 - 1) = _
          congr 1
        have e2 : y.length + 1 - t.length = n := by omega
        have e3 : y.length - t.length - 1 = n - 2 := by omega
        rw [e2, e3] at hout
        rw [hin]
        refine bsel_of (fun h => absurd (of_decide_eq_true h) (by omega)) (fun _ => ⟨by decide, by omega, by simp only [List.length_cons]; omega, stK r4 (by simp [pcell]) (by simp [Value.oneCell']) fun w6 r6 m6 z6 => ?_⟩)
        have r6 : Row w6 w2.heap.size 63 ⟨pcell (tx true (y.take (n - 2))) (.slice none 0 0)⟩ := r6
        have s6 := s4.box (Nat.le_refl _) m6
        refine ⟨by decide, b, rfl, bsel_of (fun g2 => ?_) (fun g2 => ?_)⟩
        · have g2 : b = 92 := byte_eq.1 (of_decide_eq_true g2)
          obtain ⟨a, rfl⟩ := h92 g2
          rw [if_pos g2] at hout
          simp only [List.length_cons] at h1
          refine ⟨by decide, by decide, by simp only [List.length_cons]; omega, stK r6 (by simp [pcell]) (by simp [Value.oneCell']) fun w7 r7 m7 z7 => ⟨tx true [a], none, 0, r7, SlAt.nil _ _ _ _, s6.box (Nat.le_refl _) m7, fun _ => ?_, fun e => ?_⟩⟩
          · rw [hout]
            exact ⟨rfl, rfl, by dsimp only; omega⟩
          · rw [g2] at e
            exact absurd e (by decide)
        · have g2 : ¬ b = 92 := fun e => of_decide_eq_false g2 (byte_eq.2 e)
          rw [if_neg g2] at hout
          refine ⟨tx true (y.take (n - 2)), none, 0, r6, SlAt.nil _ _ _ _, s6, fun e => ?_, fun e => ?_⟩
          · rw [if_neg e] at hout
            rw [hout]
            exact ⟨rfl, rfl, rfl⟩
          · rw [if_pos e] at hout
            refine ⟨rfl, n, rfl, by simp only [List.length_cons]; omega, ?_, hout⟩
            show (y.take (n - 2)).length + 2 ≤ n
            rw [List.length_take]
            omega
    · have h36 : b = 36 := byte_eq.1 (of_decide_eq_true h36)
      subst h36
      refine (ref_dollar_of hL ih y false hlc).mono ?_
      rintro e5 w5 ⟨⟨x, vw, n, hsl, hm⟩, s5⟩
      obtain ⟨wp, wc, rfl⟩ := hsl.form
      have z5 := s5.size
      have key : ∃ k : Nat, e5 = .returned (.tuple #[pagg x (.slice wp x.w.length wc), .int .i64 (n : Int), .int .i64 (k : Int)]) ∧ (match dollarF (wpL L) false (36 :: y) with
          | .ok p => k = 0 ∧ p = (x, n)
          | .bad j => k = j) := by
        cases hb : dollarF (wpL L) false (36 :: y) with
        | ok p =>
          rw [hb] at hm
          exact ⟨0, hm.1, rfl, hm.2⟩
        | bad j =>
          rw [hb] at hm
          exact ⟨j, hm, rfl⟩
      obtain ⟨k, he, hk⟩ := key
      refine .inl ⟨x.k, x.q, x.t, x.n, x.o, wp, x.w.length, wc, (n : Int), (k : Int), he, stK (r4.still s5) (by simp [pcell]) one6 fun w6 r6 m6 z6 => ⟨x, wp, wc, r6, (hsl.mod m6 fun j hj e => by omega).mono fun j hj => by omega, (s4.trans s5).box (Nat.le_refl _) m6, fun _ => ?_, fun e => absurd e (by decide)⟩⟩
      have hout : outOne (wpL L) (36 :: y) = (dollarF (wpL L) false (36 :: y)).and fun x => .ok ([x.1], x.2) := by simp only [outOne, if_true]
      rw [hout]
      cases hb : dollarF (wpL L) false (36 :: y) with
      | ok p =>
        rw [hb] at hk
        obtain ⟨rfl, rfl⟩ := hk
        exact ⟨rfl, rfl, rfl⟩
      | bad j =>
        rw [hb] at hk
        have hk : k = j := hk
        subst hk
        rfl
    · have h36 : ¬ b = 36 := fun e => of_decide_eq_false h36 (byte_eq.2 e)
      have hno : ¬ (b = 92 ∨ b = 39 ∨ b = 34) := fun e => by rw [ht.2 e] at g; cases g
      refine ⟨tx false [b], none, 0, r4, SlAt.nil _ _ _ _, s4, fun _ => ?_, fun e => absurd (.inr (.inr e)) hno⟩
      have hout : outOne (wpL L) (b :: y) = .ok ([tx false [b]], 1) := by
        simp only [outOne]
        rw [if_neg h36, if_neg hno]
      rw [hout]
      exact ⟨rfl, rfl, rfl⟩
  rintro n ex _ w10 ⟨x, wp, wc, r10, hsl10, s10, hx1, hx2⟩
  have z10 : w2.heap.size < w10.heap.size := r10.lt
  have s210 := s2.trans s10
  -- an error
  have err : ∀ (k : Nat) (w9 : World), outOne (wpL L) (b :: y) = .bad k → Still w w9 → RPost w s (L + 1) (.returned (.tuple #[.slice none 0 0, .int .i64 (k : Int)])) w9 := by
    intro k w9 ho s9
    refine ⟨?_, s9⟩
    rw [ho] at hlp
    rw [hwp, ← hlp]
    rfl
  by_cases h34 : b = 34
  · obtain ⟨rfl, m, rfl, hml, hxt, hout⟩ := hx2 h34
    rw [hout] at hlp
    refine bsel_of (fun hh => absurd rfl (nt hh)) (fun _ => ⟨by decide, b, rfl, bsel_of (fun hh => absurd (byte_eq.2 h34) (nt hh)) (fun _ => ⟨_, r10.lget rfl, (ref_double_of hL ih x.t (by omega)).mono ?_⟩)⟩)
    rintro e12 w12 ⟨hq, s12⟩
    cases hd : dblF (wpL L) x.t with
    | bad k =>
      rw [hd] at hq
      have hk : k ≠ 0 := fun e => dblF_nz (wpL_nz L) x.t (by rw [hd, e])
      refine .inl ⟨_, _, _, _, hq, bsel_of (fun _ => err k _ (by rw [hout, hd]; rfl) (s210.trans s12)) (fun hh => absurd (nf hh) (by omega))⟩
    | ok l =>
      rw [hd] at hq hlp
      obtain ⟨v, rfl, hsl⟩ := hq
      obtain ⟨p12, c12, rfl⟩ := hsl.form
      have hlw := dblF_wt (wpL_wt L) hd
      have hln := wtL_len l
      have zz := s210.size
      refine .inl ⟨_, _, _, _, rfl, bsel_of (fun hh => absurd rfl (nt hh)) (fun _ => ?_)⟩
      refine ⟨fun out1 n1 c1 i w13 => ∃ k : Nat, i = (k : Int) ∧ k ≤ l.length ∧ SlAt w13 (fun j => w.heap.size ≤ j) ((l.take k).foldl addP acc) (.slice out1 n1 c1) ∧ SlAt w13 (fun j => w.heap.size ≤ j) l (.slice p12 l.length c12) ∧ Still w w13, fun _ _ _ i _ => l.length - i.toNat, ⟨0, rfl, Nat.zero_le _, hacc.still (s10.trans s12), hsl.mono fun k hk => by omega, s210.trans s12⟩, ?_⟩
      rintro out1 n1 c1 _ _ w13 ⟨k, rfl, hk, hacc13, hsl13, s13⟩
      obtain ⟨rfl, _⟩ := hacc13.len
      refine bsel_of (fun hx => ?_) (fun hx => ?_)
      · have hx : k < l.length := by have := of_decide_eq_true hx; omega
        obtain ⟨a, wp1, wc1, rfl, c0, c1, c2, c3, c4, c5, hsw⟩ := hsl13.fields hx
        have hwf := wt_fold (l.take k) acc
        have hwk := wt_take hx
        rw [Int.toNat_natCast]
        refine ⟨by omega, by omega, _, _, _, _, _, _, _, _, c0, c1, c2, c3, c4, c5, (ref_Add_spec (x := l[k]) (N := w.heap.size) hacc13 s13.size hsw (by omega)).mono ?_⟩
        rintro _ w14 ⟨v14, rfl, hsl14, s14⟩
        obtain ⟨p14, c14, rfl⟩ := hsl14.form
        have e1 : IntKind.i64.wrap ((k : Int) + 1) = ((k + 1 : Nat) : Int) := by rw [wrap_i64 (by omega) (by omega)]; omega
        rw [e1]
        refine .inl ⟨_, _, _, rfl, ⟨k + 1, rfl, hx, ?_, hsl13.still s14, s13.trans s14⟩, by dsimp only; omega⟩
        rw [fold_take hx]
        exact hsl14
      · have hx : k = l.length := by have := of_decide_eq_false hx; omega
        subst hx
        rw [List.take_length] at hacc13
        have hdl : ((b :: y).drop m).length = (b :: y).length - m := List.length_drop
        have hwf := wt_fold l acc
        refine ⟨by omega, by omega, ?_⟩
        rw [Int.toNat_natCast]
        simp only [Rs.and] at hlp
        exact ⟨⟨l.foldl addP acc, by rw [List.take_length]; exact hacc13, s13, by omega, hlp, by omega⟩, by dsimp only; omega⟩
  · have hx := hx1 h34
    cases ho : outOne (wpL L) (b :: y) with
    | bad k =>
      rw [ho] at hx
      have hk : k ≠ 0 := fun e => outOne_nz (wpL_nz L) b y (by rw [ho, e])
      have hx : ex = (k : Int) := hx
      subst hx
      exact bsel_of (fun _ => err k _ ho s210) (fun hh => absurd (nf hh) (by omega))
    | ok p =>
      rw [ho] at hx hlp
      obtain ⟨rfl, hp1, rfl⟩ := hx
      have hbe := outOne_bears (wpL_wt L) _ _ ho
      have hta := outOne_takes _ _ _ ho
      rw [hp1, wtL_one] at hbe
      refine bsel_of (fun hh => absurd rfl (nt hh)) (fun _ => ⟨by decide, b, rfl, bsel_of (fun _ => ⟨_, _, _, _, _, _, _, _, r10.lget rfl, r10.lget rfl, r10.lget rfl, r10.lget rfl, r10.lget rfl, r10.lget rfl, (ref_Add_spec (x := x) (N := w.heap.size) (hacc.still s10) (by omega) (hsl10.mono fun k hk => by omega) (by omega)).mono ?_⟩) (fun hh => absurd (byte_eq.1 (nf hh)) h34)⟩)
      rintro _ w11 ⟨v11, rfl, hsl11, s11⟩
      obtain ⟨p11, c11, rfl⟩ := hsl11.form
      have hdl : ((b :: y).drop p.2).length = (b :: y).length - p.2 := List.length_drop
      have hwa := wt_add acc x
      refine .inl ⟨_, _, _, rfl, by omega, by omega, ?_⟩
      rw [Int.toNat_natCast]
      simp only [Rs.and, hp1, List.foldl_cons, List.foldl_nil] at hlp
      exact ⟨⟨addP acc x, hsl11, s210.trans s11, by omega, hlp, by omega⟩, by dsimp only; omega⟩
theorem ref_parts_lv : ∀ L, L ≤ 31 → RPartsS L
  | 0, _ => by
    intro w s hs
    refine ref08_parts_calls _ _ _ _ ?_
    exact bsel_of (fun _ => ⟨rfl, Still.refl _⟩) (fun h => absurd (of_decide_eq_false h) (by decide))
  | L + 1, hL => by
    intro w s hs
    have e1 : (31 : Int) - ((L + 1 : Nat) : Int) = 30 - (L : Int) := by omega
    rw [e1]
    exact ref_parts_of (by omega) (ref_parts_lv L (by omega)) s hs
theorem ref_Parse_spec (s : Txt) (hs : s.length < 1000000) : Calls Tryz.prog fn_ref08_Parse #[.string (S s)] w (RPost w s 30) := by
  refine ref08_Parse_calls _ _ _ ?_
  refine (ref_parts_lv 30 (by decide) w s hs).mono ?_
  rintro e w1 h
  unfold RPost at h ⊢
  obtain ⟨h, s1⟩ := h
  cases hw : wpL 30 s with
  | bad k =>
    rw [hw] at h
    exact .inl ⟨_, _, _, _, h, rfl, s1⟩
  | ok l =>
    rw [hw] at h
    obtain ⟨v, rfl, hsl⟩ := h
    obtain ⟨p, c, rfl⟩ := hsl.form
    exact .inl ⟨_, _, _, _, rfl, ⟨_, rfl, hsl⟩, s1⟩
theorem ref_ends_spec (c : UInt8) : Calls Tryz.prog fn_ref07_ends #[.int .u8 (c.toNat : Int)] w (fun e w' => e = .returned (.bool (isEnd c)) ∧ w' = w) := by
  refine ref07_ends_calls _ _ _ ?_
  have hb : ∀ k : UInt8, decide ((c.toNat : Int) = (k.toNat : Int)) = (c == k) := by
    intro k
    rw [Bool.eq_iff_iff, decide_eq_true_iff, beq_iff_eq]
    exact byte_eq
  have h1 := hb 32
  have h2 := hb 9
  have h3 := hb 10
  have h4 := hb 59
  have h5 := hb 124
  have h6 := hb 38
  have h7 := hb 40
  have h8 := hb 41
  have h9 := hb 60
  have h10 := hb 62
  refine ⟨fun x w1 => x = isEnd c ∧ w1 = w, ?_, ?_⟩
  · have k1 : decide ((c.toNat : Int) = 32) = (c == 32) := h1
    have k2 : decide ((c.toNat : Int) = 9) = (c == 9) := h2
    have k3 : decide ((c.toNat : Int) = 10) = (c == 10) := h3
    have k4 : decide ((c.toNat : Int) = 59) = (c == 59) := h4
    have k5 : decide ((c.toNat : Int) = 124) = (c == 124) := h5
    have k6 : decide ((c.toNat : Int) = 38) = (c == 38) := h6
    have k7 : decide ((c.toNat : Int) = 40) = (c == 40) := h7
    have k8 : decide ((c.toNat : Int) = 41) = (c == 41) := h8
    have k9 : decide ((c.toNat : Int) = 60) = (c == 60) := h9
    have k10 : decide ((c.toNat : Int) = 62) = (c == 62) := h10
    rw [k1, k2, k3, k4, k5, k6, k7, k8, k9, k10]
    unfold isEnd
    refine bsel_of (fun h => ⟨by rw [h]; rfl, rfl⟩) (fun g1 => bsel_of (fun h => ⟨by rw [h]; simp, rfl⟩) (fun g2 => bsel_of (fun h => ⟨by rw [h]; simp, rfl⟩) (fun g3 => bsel_of (fun h => ⟨by rw [h]; simp, rfl⟩) (fun g4 => bsel_of (fun h => ⟨by rw [h]; simp, rfl⟩) (fun g5 => bsel_of (fun h => ⟨by rw [h]; simp, rfl⟩) (fun g6 => bsel_of (fun h => ⟨by rw [h]; simp, rfl⟩) (fun g7 => bsel_of (fun h => ⟨by rw [h]; simp, rfl⟩) (fun g8 => bsel_of (fun h => ⟨by rw [h]; simp, rfl⟩) (fun g9 => ⟨?_, rfl⟩)))))))))
    rw [g1, g2, g3, g4, g5, g6, g7, g8, g9]
    rfl
  · rintro x _ w1 ⟨rfl, rfl⟩
    exact bsel_of (fun h => ⟨by rw [h], rfl⟩) (fun h => ⟨by rw [h], rfl⟩)
def signL : List Txt := [[38, 38], [124, 124], [59, 59], [62, 62], [59], [124], [38], [40], [41], [60], [62]]
theorem ref_sign_spec (s : Txt) (n : Nat) (hn : n ≤ s.length) (hs : s.length < 1000000) : Calls Tryz.prog fn_ref07_sign #[.string (S s), .int .i64 (n : Int)] w
    (fun e w' => e = .returned (.string (S ((signL.find? fun t => pf t (s.drop n)).getD []))) ∧ Still w w') := by
  refine ref07_sign_calls _ _ _ _ ?_
  have hr : Row (w.alloc (.cells ⟨strs signL⟩ 9)) w.heap.size 9 ⟨strs signL⟩ := Row.new _ _ _
  have hm : Still w (w.alloc (.cells ⟨strs signL⟩ 9)) := (Mod.refl _ _).alloc _
  refine ⟨fun i w1 => ∃ k : Nat, i = (k : Int) ∧ k ≤ 11 ∧ (signL.drop k).find? (fun t => pf t (s.drop n)) = signL.find? (fun t => pf t (s.drop n)) ∧ Row w1 w.heap.size 9 ⟨strs signL⟩ ∧ Still w w1, fun i _ => 11 - i.toNat, ⟨0, rfl, by omega, rfl, hr, hm⟩, ?_⟩
  rintro _ _ w1 ⟨k, rfl, hk, hf, hr1, hm1⟩
  rw [← hf]
  refine bsel_of (fun hx => ?_) (fun hx => ?_)
  · have hx : k < 11 := by have := of_decide_eq_true hx; omega
    have hxl : k < signL.length := hx
    have e1 : IntKind.i64.wrap ((k : Int) + 1) = ((k + 1 : Nat) : Int) := by rw [wrap_i64 (by omega) (by omega)]; omega
    have hc : w1.cell? ((Addr.mk w.heap.size 0 none).add (Int.toNat (k : Int) * 1)) = some (.string (S signL[k])) := by
      rw [Int.toNat_natCast, Nat.mul_one, add_row, Nat.zero_add]
      refine hr1.cellv ?_
      simp [strs, hxl]
    have hl : ∀ t ∈ signL, t.length < 1000000 := by decide
    refine ⟨by omega, by omega, _, hc, (begins_spec s signL[k] n hn hs (hl _ (List.getElem_mem hxl))).mono ?_⟩
    rintro _ w2 ⟨rfl, rfl⟩
    rw [find_step hxl]
    refine .inl ⟨_, rfl, bsel_of (fun h => ⟨by omega, by omega, _, hc, ?_, hm1⟩) (fun h => ?_)⟩
    · rw [if_pos h]
      rfl
    · rw [e1]
      refine ⟨⟨k + 1, rfl, hx, ?_, hr1, hm1⟩, by dsimp only; omega⟩
      rw [if_neg (by rw [h]; decide)]
  · have hx : k = 11 := by have := of_decide_eq_false hx; omega
    subst hx
    exact ⟨rfl, hm1⟩
theorem pfr_one (x a : UInt8) (r : Txt) : pf [x] (a :: r) = (a == x) := by
  unfold pf
  rw [Bool.eq_iff_iff, decide_eq_true_iff, beq_iff_eq]
  simp
theorem pfr_pair (x y a b : UInt8) (r : Txt) : pf [x, y] (a :: b :: r) = (a == x && b == y) := by
  unfold pf
  rw [Bool.eq_iff_iff, decide_eq_true_iff, Bool.and_eq_true, beq_iff_eq, beq_iff_eq]
  simp
theorem pfr_short (x y a : UInt8) : pf [x, y] [a] = false := rfl
theorem sign_is {a : UInt8} {r : Txt} (h1 : isEnd a = true) (h2 : a ≠ 32) (h3 : a ≠ 9) (h4 : a ≠ 10) : (signL.find? fun t => pf t (a :: r)).getD [] = (a :: r).take (opLen (a :: r)) := by
  simp only [isEnd, Bool.or_eq_true, beq_iff_eq] at h1
  cases r with
  | nil =>
    simp only [signL, List.find?_cons, pfr_one, pfr_short]
    rcases h1 with ((((((((h | h) | h) | h) | h) | h) | h) | h) | h) | h <;> subst h <;> first | exact absurd rfl h2 | exact absurd rfl h3 | exact absurd rfl h4 | rfl
  | cons b t =>
    have hopn : opLen (a :: b :: t) = if a = b ∧ ([38, 124, 59, 62] : Txt).contains a = true then 2 else 1 := rfl
    rw [hopn]
    simp only [signL, List.find?_cons, pfr_one, pfr_pair]
    by_cases hb : a = b
    · subst hb
      rcases h1 with ((((((((h | h) | h) | h) | h) | h) | h) | h) | h) | h <;> subst h <;> first | exact absurd rfl h2 | exact absurd rfl h3 | exact absurd rfl h4 | rfl
    · rw [if_neg (fun h => hb h.1)]
      have hb' : ∀ k, a = k → (b == k) = false := by
        intro k hk
        subst hk
        rw [beq_eq_false_iff_ne]
        exact fun e => hb e.symm
      rcases h1 with ((((((((h | h) | h) | h) | h) | h) | h) | h) | h) | h <;> first | exact absurd h h2 | exact absurd h h3 | exact absurd h h4 | (have hk := hb' _ h; subst h; simp [hk])
theorem endsB_drop {s : Txt} {n : Nat} (h : n < s.length) : endsB (s.drop n) = isEnd s[n] := by
  rw [List.drop_eq_getElem_cons h]
  rfl
structure RS (w w1 : World) (s : Txt) (n : Nat) (acc : List Tok) (p : Option Addr) (C : Nat) : Prop where
  at' : n ≤ s.length
  li : Owns w1 w.heap.size 78 2 (.slice p acc.length C) acc.length (tc acc)
  still : Still w w1
  all : (toks (s.drop n)).map (acc ++ ·) = toks s
  few : acc.length + (s.length - n) ≤ s.length
theorem RS.quiet {w1 : World} {s t : Txt} {n m : Nat} {acc : List Tok} {p : Option Addr} {C : Nat} (h : RS w w1 s n acc p C) (hn : n < s.length) (hm : n < m) (hm2 : m ≤ s.length) (hone : tokOne s[n] (s.drop (n + 1)) = some ([], t)) (ht : t = s.drop m) : RS w w1 s m acc p C := by
  have hall := h.all
  have := h.few
  rw [List.drop_eq_getElem_cons hn, toks_cons, hone] at hall
  refine ⟨hm2, h.li, h.still, ?_, by omega⟩
  rw [← ht]
  simpa using hall
theorem RS.told {w1 w3 : World} {s t : Txt} {n m k : Nat} {acc : List Tok} {p p3 : Option Addr} {C C3 : Nat} {x : Txt} (h : RS w w1 s n acc p C) (hn : n < s.length) (hm : n < m) (hm2 : m ≤ s.length) (hone : tokOne s[n] (s.drop (n + 1)) = some ([(k, x)], t)) (ht : t = s.drop m)
    (ho3 : Owns w3 0 78 2 (Value.slice p3 (acc.length + 1) C3) (acc.length + 1) (tc acc ++ [.int .i64 (k : Int), .string (S x)])) {o : Obj} (hg : (w1.alloc o).grownBy w3 (Value.ownBlock (Value.slice p acc.length C)))
    (hb : Blk p p3 (acc.length + 1) C C3 (w1.alloc o).heap.size) : RS w w3 s m (acc ++ [(k, x)]) p3 C3 := by
  have hall := h.all
  have hfew := h.few
  rw [List.drop_eq_getElem_cons hn, toks_cons, hone] at hall
  have ho3' := h.li.pushed h.still.size ho3 hb
  have hl : (acc ++ [(k, x)]).length = acc.length + 1 := by simp
  refine ⟨hm2, ?_, h.still.pushed h.li (Nat.le_refl _) hg, ?_, by omega⟩
  · rw [hl, tc_append]
    exact ho3'
  · rw [← hall, ← ht]
    show _ = Option.map _ (Option.map _ (toks t))
    cases toks t <;> simp
set_option maxHeartbeats 2000000 in
theorem ref_tokens_spec (s : Txt) : Calls Tryz.prog fn_ref07_Tokens #[.string (S s)] w
    (fun e w' => ∃ p C, e = .returned (.tuple #[.slice p (tokRes s).1.length C, .int .i64 (tokRes s).2]) ∧ Owns w' w.heap.size 78 2 (.slice p (tokRes s).1.length C) (tokRes s).1.length (tc (tokRes s).1) ∧ Still w w') := by
  refine ref07_Tokens_calls _ _ _ ?_
  refine bsel_of (fun h20 => ?_) (fun h20 => ?_)
  · have h20 := of_decide_eq_true h20
    have hres : tokRes s = ([], 2) := by unfold tokRes; rw [if_pos (by omega)]
    rw [hres]
    exact ⟨none, 0, rfl, Owns.nil _ _ _ _, Mod.refl _ _⟩
  have h20 : ¬ 20000 < s.length := by have := of_decide_eq_false h20; omega
  refine ⟨fun p L C i w1 => ∃ n acc, i = ((n : Nat) : Int) ∧ L = acc.length ∧ RS w w1 s n acc p C, fun _ _ _ i _ => s.length - i.toNat, ⟨0, [], rfl, rfl, Nat.zero_le _, Owns.nil _ _ _ _, Mod.refl _ _, by simp, by simp⟩, ?_⟩
  rintro p _ C _ _ w1 ⟨n, acc, rfl, rfl, h⟩
  have hn := h.at'
  have hfew := h.few
  have wr : ∀ m : Nat, m ≤ s.length + 2 → IntKind.i64.wrap (m : Int) = (m : Int) := fun m hm => wrap_i64 (by omega) (by omega)
  refine bsel_of (fun hx => ?_) (fun hx => ?_)
  · have hx : n < s.length := by have := of_decide_eq_true hx; omega
    have hg : s[Int.toNat (n : Int)]? = some s[n] := by rw [Int.toNat_natCast]; exact getD_some hx
    have e1 : IntKind.i64.wrap ((n : Int) + 1) = ((n + 1 : Nat) : Int) := by rw [wrap_i64 (by omega) (by omega)]; omega
    rw [e1]
    have quiet : ∀ m, n < m → m ≤ s.length → tokOne s[n] (s.drop (n + 1)) = some ([], s.drop m) → (∃ n1 acc1, ((m : Nat) : Int) = ((n1 : Nat) : Int) ∧ acc.length = acc1.length ∧ RS w w1 s n1 acc1 p C) ∧ s.length - Int.toNat ((m : Nat) : Int) < s.length - Int.toNat (n : Int) := by
      intro m h1 h2 h3
      exact ⟨⟨m, acc, rfl, rfl, h.quiet hx h1 h2 h3 rfl⟩, by omega⟩
    refine ⟨by omega, _, hg, bsel_of (fun h32 => ?_) (fun h32 => ⟨by omega, _, hg, bsel_of (fun h9 => ?_) (fun h9 => ⟨by omega, _, hg, bsel_of (fun h35 => ?_) (fun h35 => ⟨by omega, _, hg, bsel_of (fun h10 => ?_) (fun h10 => ⟨by omega, _, hg, ?_⟩)⟩)⟩)⟩)⟩
    · exact quiet (n + 1) (by omega) hx (by unfold tokOne; rw [if_pos (.inl (byte_eq.1 (of_decide_eq_true h32)))])
    · exact quiet (n + 1) (by omega) hx (by unfold tokOne; rw [if_pos (.inr (byte_eq.1 (of_decide_eq_true h9)))])
    all_goals
      have n32 : ¬ s[n] = 32 := fun e => of_decide_eq_false h32 (byte_eq.2 e)
      have n9 : ¬ s[n] = 9 := fun e => of_decide_eq_false h9 (byte_eq.2 e)
      have hbl : ¬ (s[n] = 32 ∨ s[n] = 9) := fun e => e.elim n32 n9
    · have h35 : s[n] = 35 := byte_eq.1 (of_decide_eq_true h35)
      have hone : tokOne s[n] (s.drop (n + 1)) = some ([], lineEnd (s.drop n)) := by
        unfold tokOne
        rw [if_neg hbl, if_pos h35, List.drop_eq_getElem_cons hx]
        conv => rhs; rw [lineEnd, if_neg (by rw [h35]; decide)]
      refine ⟨fun i w2 => ∃ m : Nat, i = (m : Int) ∧ n ≤ m ∧ m ≤ s.length ∧ lineEnd (s.drop m) = lineEnd (s.drop n) ∧ w2 = w1, fun i _ => s.length - i.toNat, ⟨n, rfl, Nat.le_refl _, hn, rfl, rfl⟩, ?_⟩
      rintro _ _ w2 ⟨m, rfl, hnm, hm, hle, rfl⟩
      have e2 : IntKind.i64.wrap ((m : Int) + 1) = ((m + 1 : Nat) : Int) := by rw [wrap_i64 (by omega) (by omega)]; omega
      rw [e2]
      refine bsel_of (fun hy => ?_) (fun hy => ?_)
      · have hy : m < s.length := by have := of_decide_eq_true hy; omega
        have hgm : s[Int.toNat (m : Int)]? = some s[m] := by rw [Int.toNat_natCast]; exact getD_some hy
        have hdm := List.drop_eq_getElem_cons hy
        refine ⟨by omega, _, hgm, bsel_of (fun h10 => ?_) (fun h10 => ?_)⟩
        · have h10 : ¬ s[m] = 10 := fun e => by rw [Bool.not_eq_true'] at h10; exact of_decide_eq_false h10 (byte_eq.2 e)
          refine ⟨⟨m + 1, rfl, by omega, hy, ?_, rfl⟩, by dsimp only; omega⟩
          rw [← hle, hdm, lineEnd, if_neg h10]
        · have h10 : s[m] = 10 := by rw [Bool.not_eq_false'] at h10; exact byte_eq.1 (of_decide_eq_true h10)
          have hne : n ≠ m := by
            rintro rfl
            rw [h35] at h10
            cases h10
          refine quiet m (by omega) hm ?_
          rw [hone, ← hle, hdm, lineEnd, if_pos h10]
      · have hy : m = s.length := by have := of_decide_eq_false hy; omega
        refine quiet m (by omega) hm ?_
        rw [hone, ← hle, List.drop_of_length_le (by omega)]
        rfl
    all_goals
      have n35 : ¬ s[n] = 35 := fun e => of_decide_eq_false h35 (byte_eq.2 e)
    · have h10 : s[n] = 10 := byte_eq.1 (of_decide_eq_true h10)
      refine ⟨tc acc, [.int .i64 2, .string (S [10])], (h.li.alloc _).base0, rfl, two_one, pair_src _ _ _ _, by omega, by omega, fun p3 C3 w3 ho3 hg3 hb3 => ?_⟩
      exact ⟨⟨n + 1, acc ++ [(2, [10])], rfl, by simp, h.told hx (by omega) hx (by unfold tokOne; rw [if_neg hbl, if_neg n35, if_pos h10]) rfl ho3 hg3 hb3⟩, by dsimp only; omega⟩
    have n10 : ¬ s[n] = 10 := fun e => of_decide_eq_false h10 (byte_eq.2 e)
    refine (ref_ends_spec s[n]).mono ?_
    rintro _ w4 ⟨rfl, rfl⟩
    refine .inl ⟨_, rfl, bsel_of (fun hend => ?_) (fun hend => ?_)⟩
    · refine (ref_sign_spec s n hn (by omega)).mono ?_
      rintro _ w5 ⟨rfl, hm5⟩
      have hsg : (signL.find? fun t => pf t (s.drop n)).getD [] = (s[n] :: s.drop (n + 1)).take (opLen (s[n] :: s.drop (n + 1))) := by
        rw [List.drop_eq_getElem_cons hx]
        exact sign_is hend n32 n9 n10
      rw [hsg]
      have hol := opLen_le (a := s[n]) (r := s.drop (n + 1))
      have hll : (s[n] :: s.drop (n + 1)).length = s.length - n := by rw [← List.drop_eq_getElem_cons hx, List.length_drop]
      have htl : ((s[n] :: s.drop (n + 1)).take (opLen (s[n] :: s.drop (n + 1)))).length = opLen (s[n] :: s.drop (n + 1)) := by rw [List.length_take]; omega
      have h5 : RS w w5 s n acc p C := ⟨hn, h.li.mod hm5 (fun _ _ h => h), Mod.trans h.still hm5 (fun _ h => h) (fun _ _ h => h), h.all, hfew⟩
      refine .inl ⟨_, rfl, tc acc, [.int .i64 1, .string (S ((s[n] :: s.drop (n + 1)).take (opLen (s[n] :: s.drop (n + 1)))))], (h5.li.alloc _).base0, rfl, two_one, pair_src _ _ _ _, by omega, by omega, fun p3 C3 w6 ho6 hg6 hb6 => ?_⟩
      rw [htl]
      have e2 : IntKind.i64.wrap ((n : Int) + (opLen (s[n] :: s.drop (n + 1)) : Int)) = ((n + opLen (s[n] :: s.drop (n + 1)) : Nat) : Int) := by rw [wrap_i64 (by omega) (by omega)]; omega
      rw [e2]
      refine ⟨⟨_, acc ++ [(1, (s[n] :: s.drop (n + 1)).take (opLen (s[n] :: s.drop (n + 1))))], rfl, by simp, h5.told hx (by omega) (by omega) (t := (s[n] :: s.drop (n + 1)).drop (opLen (s[n] :: s.drop (n + 1)))) (by unfold tokOne; rw [if_neg hbl, if_neg n35, if_neg n10, if_pos hend]) ?_ ho6 hg6 hb6⟩, by dsimp only; omega⟩
      rw [← List.drop_eq_getElem_cons hx, List.drop_drop]
    · refine ⟨fun i w7 => ∃ m : Nat, i = (m : Int) ∧ n ≤ m ∧ m ≤ s.length ∧ wordD (s.drop m) = wordD (s.drop n) ∧ w7 = w4, fun i _ => s.length - i.toNat, ⟨n, rfl, Nat.le_refl _, hn, rfl, rfl⟩, ?_⟩
      rintro _ _ w7 ⟨m, rfl, hnm, hm, hwd, rfl⟩
      have hone : tokOne s[n] (s.drop (n + 1)) = match wordD (s.drop m) with
        | some t => some ([(0, (s.drop n).take ((s.drop n).length - t.length))], t)
        | none => none := by
        unfold tokOne
        rw [if_neg hbl, if_neg n35, if_neg n10, if_neg (by rw [hend]; decide), ← List.drop_eq_getElem_cons hx, hwd]
        cases wordD (s.drop n) <;> rfl
      refine ⟨fun x w9 => x = !endsB (s.drop m) ∧ w9 = w7, bsel_of (fun hy => ?_) (fun hy => ?_), ?_⟩
      · have hy : m < s.length := by have := of_decide_eq_true hy; omega
        have hgm : s[Int.toNat (m : Int)]? = some s[m] := by rw [Int.toNat_natCast]; exact getD_some hy
        refine ⟨by omega, _, hgm, (ref_ends_spec s[m]).mono ?_⟩
        rintro _ w8 ⟨rfl, rfl⟩
        exact .inl ⟨_, rfl, by rw [endsB_drop hy], rfl⟩
      · have hy : m = s.length := by have := of_decide_eq_false hy; omega
        refine ⟨?_, rfl⟩
        rw [List.drop_of_length_le (by omega)]
        rfl
      · rintro _ _ w9 ⟨rfl, rfl⟩
        refine bsel_of (fun he => ?_) (fun he => ?_)
        · have he : endsB (s.drop m) = false := by simpa using he
          have hy : m < s.length := by
            rcases Nat.lt_or_ge m s.length with h | h
            · exact h
            · rw [List.drop_of_length_le h] at he
              cases he
          refine (ref_skip_spec s m hy (by omega)).mono ?_
          rintro _ w10 ⟨rfl, rfl⟩
          refine .inl ⟨_, rfl, ?_⟩
          cases hu : unitD 30 (s.drop m) with
          | none =>
            refine bsel_of (fun _ => ?_) (fun h => by have := of_decide_eq_false h; simp [ix] at this)
            rw [wordD_none he hu] at hone
            have hall := h.all
            rw [List.drop_eq_getElem_cons hx, toks_cons, hone] at hall
            have hno : toks s = none := by rw [← hall]; rfl
            have hres : tokRes s = ([], 80) := by unfold tokRes; rw [if_neg h20, hno]
            rw [hres]
            exact ⟨none, 0, rfl, Owns.nil _ _ _ _, h.still⟩
          | some t =>
            have h1 := unitD_ends 30 _ _ hu
            have h2 := unitD_takes 30 _ _ hu
            rw [List.length_drop] at h2
            have h3 := h1.trans (drop_suf s m)
            have hle := h3.length_le
            refine bsel_of (fun h => ?_) (fun _ => ⟨⟨s.length - t.length, rfl, by omega, by omega, ?_, rfl⟩, ?_⟩)
            · have h := of_decide_eq_true h
              simp only [ix] at h
              omega
            · rw [← suf_drop h3, ← wordD_unit he hu, hwd]
            · simp only [ix]
              omega
        · have he : endsB (s.drop m) = true := by simpa using he
          rw [wordD_ends he] at hone
          have hnm2 : n ≠ m := by
            rintro rfl
            rw [endsB_drop hx] at he
            rw [he] at hend
            cases hend
          have hlen : (s.drop n).length - (s.drop m).length = m - n := by rw [List.length_drop, List.length_drop]; omega
          rw [show Int.toNat (m : Int) - Int.toNat (n : Int) = m - n by omega, Int.toNat_natCast]
          dsimp only at hone
          rw [hlen] at hone
          refine ⟨by omega, by omega, by omega, tc acc, [.int .i64 0, .string (S ((s.drop n).take (m - n)))], (h.li.alloc _).base0, rfl, two_one, pair_src _ _ _ _, by omega, by omega, fun p3 C3 w11 ho11 hg11 hb11 => ?_⟩
          exact ⟨⟨m, acc ++ [(0, (s.drop n).take (m - n))], rfl, by simp, h.told hx (by omega) hm hone rfl ho11 hg11 hb11⟩, by dsimp only; omega⟩
  · have hx : n = s.length := by have := of_decide_eq_false hx; omega
    have hall : toks s = some acc := by rw [← h.all, List.drop_of_length_le (by omega)]; simp [toks_nil]
    have hres : tokRes s = (acc, 0) := by unfold tokRes; rw [if_neg h20, hall]
    rw [hres]
    exact ⟨p, C, rfl, h.li, h.still⟩
def TokAt (w : World) (p : Option Addr) (n : Nat) (l : List Tok) : Prop := l.length = n ∧ ∀ i x, l[i]? = some x → ∃ a, p = some a ∧ w.cell? (a.add (i * 2)) = some (.int .i64 (x.1 : Int)) ∧ w.cell? ((a.add (i * 2)).add 1) = some (.string (S x.2))
theorem TokAt.still {w w' : World} {p : Option Addr} {n : Nat} {l : List Tok} (h : TokAt w p n l) (hm : Still w w') : TokAt w' p n l := by
  refine ⟨h.1, fun i x hx => ?_⟩
  obtain ⟨a, h1, h2, h3⟩ := h.2 i x hx
  have cell : ∀ {a : Addr} {v : Value}, w.cell? a = some v → w'.cell? a = some v := fun h => (World.cell?_of_block (hm.block _ (World.block_lt_of_cell? _ _ h) (fun h => h))).trans h
  exact ⟨a, h1, cell h2, cell h3⟩
theorem CellsAt.zero {b : Addr} {x : Value} {xs : List Value} (h : CellsAt w b (x :: xs)) : w.cell? b = some x := by
  have a0 : b.add 0 = b := by unfold Addr.add; simp
  have := h 0 x rfl
  rwa [a0] at this
theorem Still.only {g : Nat} {a b : World} (h : Still a b) : Only g a b := h.weaken fun _ h => h.elim
end Go.Proofs.YthommfjiaalecaaGreatDoor
namespace Go.Proofs.YthommfjiaalecaaGreatDoor
open Go.RowKit Vc
variable {w : World} {α β : Type}
def Enc.OutX (e : Enc α) (w : World) (B : Nat) (t : TypeId) (X : Nat → Prop) (gn : Nat) (l : List α) (v : Value) : Prop := ∃ p c xs, v = .slice p l.length c ∧ Owns w B t e.sz v l.length xs ∧ (∀ k, v.ownBlock = some k → X k ∧ k ≠ gn) ∧ e.Cs w (fun k => B ≤ k ∧ k < w.heap.size ∧ ¬ X k) l xs
theorem Enc.OutX.nil (e : Enc α) (w : World) (B : Nat) (t : TypeId) (X : Nat → Prop) (gn : Nat) : e.OutX w B t X gn [] (.slice none 0 0) := ⟨none, 0, [], rfl, Owns.nil _ _ _ _, fun k hk => (by cases hk), rfl⟩
section
variable {e : Enc α} {B gn : Nat} {t : TypeId} {X X' : Nat → Prop} {l : List α} {v : Value}
theorem Enc.OutX.form (h : e.OutX w B t X gn l v) : ∃ p c, v = .slice p l.length c := by
  obtain ⟨p, c, _, he, _⟩ := h
  exact ⟨p, c, he⟩
theorem Enc.OutX.at (h : e.OutX w B t X gn l v) : e.At w (fun k => B ≤ k ∧ k < w.heap.size) l v := by
  obtain ⟨p, c, xs, rfl, ho, _, hc⟩ := h
  obtain ⟨p', c', he, hle⟩ := ho.cap
  injection he with _ _ e3
  subst e3
  refine ⟨p, c, rfl, hle, fun hl => ?_⟩
  have hn : 0 < l.length := List.length_pos_iff.2 hl
  obtain ⟨g, cap, he, hB, hg, _, hcell⟩ := ho.ownAddr hn
  injection he with e1 e2 e3
  subst e1
  refine ⟨_, xs, rfl, ⟨hB, hg⟩, hc.turn (fun k hk => ⟨hk.1, hk.2.1⟩) (fun _ _ _ h => h), fun j u hu => ?_⟩
  rw [add_row, Nat.zero_add]
  exact hcell j u hu
theorem Enc.OutX.mod {S : Nat → Prop} {w' : World} (h : e.OutX w B t X gn l v) (hm : Mod S w w') (hS : ∀ k, B ≤ k → k < w.heap.size → S k → X k ∧ v.ownBlock ≠ some k) (hX : ∀ k, X k → X' k) (hX' : ∀ k, X' k → X k ∨ w.heap.size ≤ k) : e.OutX w' B t X' gn l v := by
  obtain ⟨p, c, xs, rfl, ho, hg, hc⟩ := h
  refine ⟨p, c, xs, rfl, ho.mod hm fun k hk hs => (hS k (ho.lt k hk).1 (ho.lt k hk).2 hs).2 hk, fun k hk => ⟨hX k (hg k hk).1, (hg k hk).2⟩, hc.turn (fun k hk => ⟨hk.1, Nat.lt_of_lt_of_le hk.2.1 hm.size, fun hx => ?_⟩) fun a v ⟨k, hk, ea⟩ hcell => mod_cell hm (by rw [ea]; exact fun hs => hk.2.2 (hS k hk.1 hk.2.1 hs).1) hcell⟩
  rcases hX' k hx with hx | hx
  · exact hk.2.2 hx
  · omega
theorem Enc.OutX.push {bytes : Nat} {p : Option Addr} {n c : Nat} {x : α} {cs : List Value} {K : Option Addr → Nat → World → Prop} {Sw : World → Prop} (ho : e.OutX w B t X gn l (.slice p n c)) (hB : B ≤ w.heap.size) (_hXs : ∀ k, X k → k < w.heap.size) (hgn : gn < w.heap.size)
    (hS : ∀ w1, Still w w1 → Sw w1) (hx : e.E w (fun k => B ≤ k ∧ k < w.heap.size ∧ ¬ X k) x cs) (hs : n + 1 ≤ 9223372036854775807) (hb : (n + 1) * bytes ≤ 140737488355328)
    (h : ∀ p' c' w', e.OutX w' B t (fun k => X k ∨ (Value.slice p' (n + 1) c').ownBlock = some k) gn (l ++ [x]) (.slice p' (n + 1) c') → Mod (fun k => (Value.slice p n c).ownBlock = some k) w w' → (∀ k, (Value.slice p' (n + 1) c').ownBlock = some k → X k ∨ w.heap.size ≤ k) → (∀ k, (Value.slice p' (n + 1) c').ownBlock = some k → k < w'.heap.size) → K p' c' w') :
    letW (w.alloc (.cells ⟨cs⟩ t)) (fun w2 => Sw w2 ∧ appK w2 t e.sz bytes p n c (some (Addr.mk w.heap.size 0 none)) 1 K) := by
  obtain ⟨p0, c0, xs, he, ho, hg, hc⟩ := ho
  injection he with e1 e2 e3
  subst e1 e2 e3
  have hl := e.len hx
  refine allocK fun w1 hr hst hz => ⟨hS w1 hst, ?_⟩
  refine appK_push (ho.still hst) (by omega) cs (by omega) (e.one hx) (fun _ => ⟨_, rfl, fun j u hu => ?_⟩) hs hb fun p' c' w' ho' hm hk => ?_
  · rw [add_row, Nat.zero_add]
    exact hr.cellv (by simpa using hu)
  have hz' := hm.size
  have hown : ∀ k, (Value.slice p' (l.length + 1) c').ownBlock = some k → (X k ∧ k ≠ gn) ∨ w.heap.size + 1 = k := by
    intro k hk'
    rcases hk.own (n := l.length) with hk | hk
    · exact .inl (hg k (hk.symm.trans hk'))
    · rw [hk'] at hk
      have := Option.some.inj hk
      exact .inr (by omega)
  refine h p' c' w' ⟨p', c', xs ++ cs, by rw [List.length_append]; rfl, by rw [List.length_append]; exact ho', fun k hk' => ⟨.inr hk', ?_⟩, ?_⟩ (Mod.trans hst hm (fun _ h => h.elim) (fun _ _ h => h)) (fun k hk' => ?_) fun k hk' => (ho'.lt k hk').2
  · rcases hown k hk' with h | h
    · exact h.2
    · omega
  · refine (hc.append (Enc.Cs.single hx)).turn (fun k hk => ⟨hk.1, by omega, fun hx => ?_⟩) fun a v ⟨k, hk, ea⟩ hcell => mod_cell hm (by rw [ea]; exact fun h => hk.2.2 (hg k h).1) (hst.cell hcell)
    rcases hx with hx | hx
    · exact hk.2.2 hx
    · rcases hown k hx with h | h
      · exact hk.2.2 h.1
      · omega
  · rcases hown k hk' with h | h
    · exact .inl h.1
    · exact .inr (by omega)
theorem Enc.OutX.row {g : Nat} {xs : List Value} (hr : Row w g t ⟨xs⟩) (hB : B ≤ g) (hg : g ≠ gn) (hX : X g) (hm : l.length ≤ 1000000) (hc : e.Cs w (fun k => B ≤ k ∧ k < w.heap.size ∧ ¬ X k) l xs) : e.OutX w B t X gn l (.slice (some ⟨g, 0, none⟩) l.length l.length) := by
  have hl := hc.len
  refine ⟨_, _, xs, rfl, ⟨hl, .inr ⟨g, l.length, ⟨xs⟩, rfl, hB, hr, Nat.le_refl _, Nat.le_trans hm (by decide), hl, ?_⟩⟩, fun k hk => ?_, hc⟩
  · rw [← hl]
    exact List.take_length
  · obtain rfl := Option.some.inj hk
    exact ⟨hX, hg⟩
end
theorem Enc.OutX.apart {e : Enc α} {f : Enc β} {B gn : Nat} {t u : TypeId} {X : Nat → Prop} {l : List α} {m : List β} {v v' : Value} (h : e.OutX w B t X gn l v) (h' : f.OutX w B u X gn m v') (hne : t ≠ u) {k : Nat} (hk : v.ownBlock = some k) : v'.ownBlock ≠ some k := by
  obtain ⟨_, _, _, _, ho, _⟩ := h
  obtain ⟨_, _, _, _, ho', _⟩ := h'
  exact ho.apart ho' hne hk
structure NB (w0 w : World) (g gn B : Nat) (X : Nat → Prop) (x : Nd) (vw va vr vo vk : Value) : Prop where
  row : Row w gn 28 ⟨ncell x vw va vr vo vk⟩
  only : Only g w0 w
  hg : g < w0.heap.size
  hB : w0.heap.size ≤ B
  hgn : B ≤ gn
  xs : ∀ k, X k → k < w.heap.size ∧ B ≤ k
  xg : X gn
  ow : wsE.OutX w B 41 X gn x.ws vw
  oa : nsE.OutX w B 43 X gn x.as va
  ord : nsE.OutX w B 45 X gn x.rs vr
  oo : osE.OutX w B 9 X gn x.os vo
  ok : ndE.OutX w B 28 X gn x.ks vk
section
variable {w0 w1 w' : World} {g gn B : Nat} {X : Nat → Prop} {x : Nd} {vw va vr vo vk : Value}
theorem NB.mod {S : Nat → Prop} (h : NB w0 w g gn B X x vw va vr vo vk) (hm : Mod S w w') (hS : ∀ k, S k → k = g ∨ w.heap.size ≤ k) : NB w0 w' g gn B X x vw va vr vo vk := by
  have hz := hm.size
  have key : ∀ k, B ≤ k → k < w.heap.size → S k → False := fun k h1 h2 h3 => by
    have := h.hg
    have := h.hB
    rcases hS k h3 with h4 | h4 <;> omega
  have n1 : ¬ S gn := fun hs => key gn h.hgn (h.xs _ h.xg).1 hs
  refine ⟨h.row.mod hm n1, Mod.trans h.only hm (fun _ h => h) (fun i hi hs => ?_), h.hg, h.hB, h.hgn, fun k hk => ⟨Nat.lt_of_lt_of_le (h.xs k hk).1 hz, (h.xs k hk).2⟩, h.xg, ?_, ?_, ?_, ?_, ?_⟩
  · have := h.only.size
    rcases hS _ hs with h4 | h4 <;> omega
  · exact h.ow.mod hm (fun k h1 h2 h3 => (key k h1 h2 h3).elim) (fun _ h => h) (fun _ h => .inl h)
  · exact h.oa.mod hm (fun k h1 h2 h3 => (key k h1 h2 h3).elim) (fun _ h => h) (fun _ h => .inl h)
  · exact h.ord.mod hm (fun k h1 h2 h3 => (key k h1 h2 h3).elim) (fun _ h => h) (fun _ h => .inl h)
  · exact h.oo.mod hm (fun k h1 h2 h3 => (key k h1 h2 h3).elim) (fun _ h => h) (fun _ h => .inl h)
  · exact h.ok.mod hm (fun k h1 h2 h3 => (key k h1 h2 h3).elim) (fun _ h => h) (fun _ h => .inl h)
theorem NB.on (h : NB w0 w g gn B X x vw va vr vo vk) (hm : Only g w w') : NB w0 w' g gn B X x vw va vr vo vk := h.mod hm fun _ h => .inl h
theorem NB.still (h : NB w0 w g gn B X x vw va vr vo vk) (hm : Still w w') : NB w0 w' g gn B X x vw va vr vo vk := h.mod hm fun _ h => h.elim
theorem NB.put (h : NB w0 w g gn B X x vw va vr vo vk) (hm : Mod (fun k => k = gn) w w') {y : Nd} {uw ua ur uo uk : Value} (hr : Row w' gn 28 ⟨ncell y uw ua ur uo uk⟩) (hw : wsE.OutX w' B 41 X gn y.ws uw ∨ y.ws = x.ws ∧ uw = vw) (ha : y.as = x.as ∧ ua = va) (hrr : y.rs = x.rs ∧ ur = vr) (ho : osE.OutX w' B 9 X gn y.os uo ∨ y.os = x.os ∧ uo = vo) (hk : ndE.OutX w' B 28 X gn y.ks uk ∨ y.ks = x.ks ∧ uk = vk) : NB w0 w' g gn B X y uw ua ur uo uk := by
  have hz := hm.size
  have own : ∀ {v : Value}, (∀ k, v.ownBlock = some k → X k ∧ k ≠ gn) → v.ownBlock ≠ some gn := fun hv he => (hv gn he).2 rfl
  refine ⟨hr, Mod.trans h.only hm (fun _ h => h) (fun i hi e => ?_), h.hg, h.hB, h.hgn, fun k hk => ⟨Nat.lt_of_lt_of_le (h.xs k hk).1 hz, (h.xs k hk).2⟩, h.xg, ?_, ?_, ?_, ?_, ?_⟩
  · have := h.hgn
    have := h.hB
    omega
  · rcases hw with hw | hw
    · exact hw
    rw [hw.1, hw.2]
    obtain ⟨_, _, _, _, _, hg, _⟩ := id h.ow
    exact h.ow.mod hm (fun k _ _ e => by subst e; exact ⟨h.xg, own hg⟩) (fun _ h => h) (fun _ h => .inl h)
  · rw [ha.1, ha.2]
    obtain ⟨_, _, _, _, _, hg, _⟩ := id h.oa
    exact h.oa.mod hm (fun k _ _ e => by subst e; exact ⟨h.xg, own hg⟩) (fun _ h => h) (fun _ h => .inl h)
  · rw [hrr.1, hrr.2]
    obtain ⟨_, _, _, _, _, hg, _⟩ := id h.ord
    exact h.ord.mod hm (fun k _ _ e => by subst e; exact ⟨h.xg, own hg⟩) (fun _ h => h) (fun _ h => .inl h)
  · rcases ho with ho | ho
    · exact ho
    rw [ho.1, ho.2]
    obtain ⟨_, _, _, _, _, hg, _⟩ := id h.oo
    exact h.oo.mod hm (fun k _ _ e => by subst e; exact ⟨h.xg, own hg⟩) (fun _ h => h) (fun _ h => .inl h)
  · rcases hk with hk | hk
    · exact hk
    rw [hk.1, hk.2]
    obtain ⟨_, _, _, _, _, hg, _⟩ := id h.ok
    exact h.ok.mod hm (fun k _ _ e => by subst e; exact ⟨h.xg, own hg⟩) (fun _ h => h) (fun _ h => .inl h)
theorem NB.nde (h : NB w0 w g gn B X x vw va vr vo vk) : NdE w (fun k => B ≤ k ∧ k < w.heap.size) x (ncell x vw va vr vo vk) :=
  NdE.of h.ow.at h.oa.at h.ord.at h.oo.at h.ok.at
theorem NB.mk0 {x : Nd} (hr : Row w gn 28 ⟨ncell x (.slice none 0 0) (.slice none 0 0) (.slice none 0 0) (.slice none 0 0) (.slice none 0 0)⟩) (ho : Only g w0 w) (hg : g < w0.heap.size) (hB : w0.heap.size ≤ B) (hgn : B ≤ gn) (hx : x.ws = [] ∧ x.as = [] ∧ x.rs = [] ∧ x.os = [] ∧ x.ks = []) :
    NB w0 w g gn B (fun k => k = gn) x (.slice none 0 0) (.slice none 0 0) (.slice none 0 0) (.slice none 0 0) (.slice none 0 0) := by
  obtain ⟨h1, h2, h3, h4, h5⟩ := hx
  refine ⟨hr, ho, hg, hB, hgn, fun k hk => by subst hk; exact ⟨hr.lt, hgn⟩, rfl, ?_, ?_, ?_, ?_, ?_⟩
  · rw [h1]; exact Enc.OutX.nil _ _ _ _ _ _
  · rw [h2]; exact Enc.OutX.nil _ _ _ _ _ _
  · rw [h3]; exact Enc.OutX.nil _ _ _ _ _ _
  · rw [h4]; exact Enc.OutX.nil _ _ _ _ _ _
  · rw [h5]; exact Enc.OutX.nil _ _ _ _ _ _
end
abbrev zcell : List Value := ncell (.mk 0 false [] [] [] [] [] []) (.slice none 0 0) (.slice none 0 0) (.slice none 0 0) (.slice none 0 0) (.slice none 0 0)
end Go.Proofs.YthommfjiaalecaaGreatDoor
namespace Go.Proofs.YthommfjiaalecaaGreatDoor
open Go.RowKit Vc
variable {w : World}
abbrev Nd.addW (x : Nd) (y : List Pt) : Nd := .mk x.k x.neg x.nm (x.ws ++ [y]) x.as x.rs x.os x.ks
theorem NB.addW {w0 w1 : World} {g gn B : Nat} {X : Nat → Prop} {x : Nd} {va vr vo vk : Value} {p : Option Addr} {n c : Nat} {y : List Pt} {cs : List Value} (h : NB w0 w1 g gn B X x (.slice p n c) va vr vo vk) (o : Only g w1 w) (hy : wsE.E w (fun k => w1.heap.size ≤ k ∧ k < w.heap.size) y cs) (hn : x.ws.length < 1000000) {K : World → Prop}
    (hK : ∀ p' c' w' X', NB w0 w' g gn B X' (x.addW y) (.slice p' (n + 1) c') va vr vo vk → Mod (fun k => B ≤ k) w w' → K w') :
    letW (w.alloc (.cells ⟨cs⟩ 41)) (fun w2 => w2.cell? (Addr.mk gn 3 none) = some (.slice p n c) ∧ appK w2 41 1 24 p n c (some (Addr.mk w.heap.size 0 none)) 1 (fun p' c' w9 => stCells (Addr.mk gn 3 none) K 0 [.slice p' (n + 1) c'] w9)) := by
  have h2 := h.on o
  obtain ⟨_, _, _, he, _, hg, _⟩ := id h2.ow
  injection he with _ en _
  have hgl := h2.row.lt
  have hsz := h.only.size
  have hoz := o.size
  have hgn := h2.hgn
  have hB := h2.hB
  refine Enc.OutX.push (Sw := fun wq => wq.cell? (Addr.mk gn 3 none) = some (.slice p n c)) h2.ow (by omega) (fun k hk => (h2.xs k hk).1) hgl (fun wq hq => (h2.row.still hq).lget rfl) (wsE.turn (fun k hk => ⟨?_, hk.2, fun hx => ?_⟩) (fun _ _ _ h => h) hy) (by omega) (by omega) fun p' c' w9 ho9 hm9 hw9 hl9 => ?_
  · have := h.row.lt
    omega
  · have := (h.xs k hx).1
    omega
  have hr9 := h2.row.mod hm9 (fun hk => (hg gn hk).2 rfl)
  refine stK hr9 (by simp) (by simp [Value.oneCell']) fun w10 r10 m10 z10 => hK p' c' w10 (fun k => X k ∨ (Value.slice p' (n + 1) c').ownBlock = some k) ?_ ?_
  rotate_left
  · exact Mod.trans hm9 m10 (fun k hk => (h2.xs k (hg k hk).1).2) (fun k _ hk => by omega)
  have hz9 := hm9.size
  have hz10 := m10.size
  have oth : ∀ {β : Type} {f : Enc β} {u : TypeId} {m : List β} {v' : Value}, f.OutX w B u X gn m v' → (∀ k, (Value.slice p n c).ownBlock = some k → v'.ownBlock ≠ some k) → f.OutX w10 B u (fun k => X k ∨ (Value.slice p' (n + 1) c').ownBlock = some k) gn m v' := by
    intro β f u m v' hf hne
    obtain ⟨_, _, _, _, _, hgv, _⟩ := id hf
    exact (hf.mod hm9 (fun k _ _ hs => ⟨(hg k hs).1, hne k hs⟩) (fun _ h => .inl h) (fun k hk => hk.elim .inl (fun h => hw9 k h))).mod m10 (fun k _ _ e => by subst e; exact ⟨.inl h2.xg, fun hk => (hgv _ hk).2 rfl⟩) (fun _ h => h) (fun _ h => .inl h)
  have own10 := ho9.mod m10 (X' := fun k => X k ∨ (Value.slice p' (n + 1) c').ownBlock = some k) (fun k _ _ e => by
    subst e
    obtain ⟨_, _, _, _, _, hgv, _⟩ := id ho9
    exact ⟨.inl h2.xg, fun hk => (hgv _ hk).2 rfl⟩) (fun _ h => h) (fun _ h => .inl h)
  have hlow : ∀ k, (Value.slice p' (n + 1) c').ownBlock = some k → B ≤ k := fun k hk => by
    rcases hw9 k hk with hk | hk
    · exact (h2.xs k hk).2
    · omega
  refine ⟨r10, Mod.trans (Mod.trans h2.only hm9 (fun _ h => h) (fun i hi hk => by have := (h2.xs _ (hg _ hk).1).2; omega)) m10 (fun _ h => h) (fun i hi e => by omega), h2.hg, hB, hgn, fun k hk => ?_, .inl h2.xg, own10, oth h2.oa (fun k hk => h2.ow.apart h2.oa (by decide) hk), oth h2.ord (fun k hk => h2.ow.apart h2.ord (by decide) hk), oth h2.oo (fun k hk => h2.ow.apart h2.oo (by decide) hk), oth h2.ok (fun k hk => h2.ow.apart h2.ok (by decide) hk)⟩
  rcases hk with hk | hk
  · have := h2.xs k hk
    exact ⟨by omega, this.2⟩
  · have := hl9 k hk
    exact ⟨by omega, hlow k hk⟩
theorem NB.addW' {w0 w1 : World} {g gn B : Nat} {X : Nat → Prop} {x : Nd} {va vr vo vk : Value} {p : Option Addr} {n c : Nat} {y : List Pt} {cs : List Value} (h : NB w0 w1 g gn B X x (.slice p n c) va vr vo vk) (o : Only g w1 w) (hy : wsE.E w (fun k => w1.heap.size ≤ k ∧ k < w.heap.size) y cs) (hn : x.ws.length < 1000000) {K : World → Prop}
    (hK : ∀ p' c' w' X', NB w0 w' g gn B X' (x.addW y) (.slice p' (n + 1) c') va vr vo vk → Mod (fun k => B ≤ k) w w' → K w') :
    letW (w.alloc (.cells ⟨cs⟩ 41)) (fun w2 => appK w2 41 1 24 p n c (some (Addr.mk w.heap.size 0 none)) 1 (fun p' c' w9 => stCells (Addr.mk gn 3 none) K 0 [.slice p' (n + 1) c'] w9)) := by
  have h0 := h.addW o hy hn hK
  exact h0.2
abbrev Nd.addA (x : Nd) (y : Txt × List Pt) : Nd := .mk x.k x.neg x.nm x.ws (x.as ++ [y]) x.rs x.os x.ks
theorem NB.addA {w0 w1 : World} {g gn B : Nat} {X : Nat → Prop} {x : Nd} {vw vr vo vk : Value} {p : Option Addr} {n c : Nat} {y : Txt × List Pt} {cs : List Value} (h : NB w0 w1 g gn B X x vw (.slice p n c) vr vo vk) (o : Only g w1 w) (hy : nsE.E w (fun k => w1.heap.size ≤ k ∧ k < w.heap.size) y cs) (hn : x.as.length < 1000000) {K : World → Prop}
    (hK : ∀ p' c' w' X', NB w0 w' g gn B X' (x.addA y) vw (.slice p' (n + 1) c') vr vo vk → Mod (fun k => B ≤ k) w w' → K w') :
    letW (w.alloc (.cells ⟨cs⟩ 43)) (fun w2 => w2.cell? (Addr.mk gn 4 none) = some (.slice p n c) ∧ appK w2 43 2 40 p n c (some (Addr.mk w.heap.size 0 none)) 1 (fun p' c' w9 => stCells (Addr.mk gn 4 none) K 0 [.slice p' (n + 1) c'] w9)) := by
  have h2 := h.on o
  obtain ⟨_, _, _, he, _, hg, _⟩ := id h2.oa
  injection he with _ en _
  have hgl := h2.row.lt
  have hsz := h.only.size
  have hoz := o.size
  have hgn := h2.hgn
  have hB := h2.hB
  refine Enc.OutX.push (Sw := fun wq => wq.cell? (Addr.mk gn 4 none) = some (.slice p n c)) h2.oa (by omega) (fun k hk => (h2.xs k hk).1) hgl (fun wq hq => (h2.row.still hq).lget rfl) (nsE.turn (fun k hk => ⟨?_, hk.2, fun hx => ?_⟩) (fun _ _ _ h => h) hy) (by omega) (by omega) fun p' c' w9 ho9 hm9 hw9 hl9 => ?_
  · have := h.row.lt
    omega
  · have := (h.xs k hx).1
    omega
  have hr9 := h2.row.mod hm9 (fun hk => (hg gn hk).2 rfl)
  refine stK hr9 (by simp) (by simp [Value.oneCell']) fun w10 r10 m10 z10 => hK p' c' w10 (fun k => X k ∨ (Value.slice p' (n + 1) c').ownBlock = some k) ?_ ?_
  rotate_left
  · exact Mod.trans hm9 m10 (fun k hk => (h2.xs k (hg k hk).1).2) (fun k _ hk => by omega)
  have hz9 := hm9.size
  have hz10 := m10.size
  have oth : ∀ {β : Type} {f : Enc β} {u : TypeId} {m : List β} {v' : Value}, f.OutX w B u X gn m v' → (∀ k, (Value.slice p n c).ownBlock = some k → v'.ownBlock ≠ some k) → f.OutX w10 B u (fun k => X k ∨ (Value.slice p' (n + 1) c').ownBlock = some k) gn m v' := by
    intro β f u m v' hf hne
    obtain ⟨_, _, _, _, _, hgv, _⟩ := id hf
    exact (hf.mod hm9 (fun k _ _ hs => ⟨(hg k hs).1, hne k hs⟩) (fun _ h => .inl h) (fun k hk => hk.elim .inl (fun h => hw9 k h))).mod m10 (fun k _ _ e => by subst e; exact ⟨.inl h2.xg, fun hk => (hgv _ hk).2 rfl⟩) (fun _ h => h) (fun _ h => .inl h)
  have own10 := ho9.mod m10 (X' := fun k => X k ∨ (Value.slice p' (n + 1) c').ownBlock = some k) (fun k _ _ e => by
    subst e
    obtain ⟨_, _, _, _, _, hgv, _⟩ := id ho9
    exact ⟨.inl h2.xg, fun hk => (hgv _ hk).2 rfl⟩) (fun _ h => h) (fun _ h => .inl h)
  have hlow : ∀ k, (Value.slice p' (n + 1) c').ownBlock = some k → B ≤ k := fun k hk => by
    rcases hw9 k hk with hk | hk
    · exact (h2.xs k hk).2
    · omega
  refine ⟨r10, Mod.trans (Mod.trans h2.only hm9 (fun _ h => h) (fun i hi hk => by have := (h2.xs _ (hg _ hk).1).2; omega)) m10 (fun _ h => h) (fun i hi e => by omega), h2.hg, hB, hgn, fun k hk => ?_, .inl h2.xg, oth h2.ow (fun k hk => h2.oa.apart h2.ow (by decide) hk), own10, oth h2.ord (fun k hk => h2.oa.apart h2.ord (by decide) hk), oth h2.oo (fun k hk => h2.oa.apart h2.oo (by decide) hk), oth h2.ok (fun k hk => h2.oa.apart h2.ok (by decide) hk)⟩
  rcases hk with hk | hk
  · have := h2.xs k hk
    exact ⟨by omega, this.2⟩
  · have := hl9 k hk
    exact ⟨by omega, hlow k hk⟩
theorem NB.addA' {w0 w1 : World} {g gn B : Nat} {X : Nat → Prop} {x : Nd} {vw vr vo vk : Value} {p : Option Addr} {n c : Nat} {y : Txt × List Pt} {cs : List Value} (h : NB w0 w1 g gn B X x vw (.slice p n c) vr vo vk) (o : Only g w1 w) (hy : nsE.E w (fun k => w1.heap.size ≤ k ∧ k < w.heap.size) y cs) (hn : x.as.length < 1000000) {K : World → Prop}
    (hK : ∀ p' c' w' X', NB w0 w' g gn B X' (x.addA y) vw (.slice p' (n + 1) c') vr vo vk → Mod (fun k => B ≤ k) w w' → K w') :
    letW (w.alloc (.cells ⟨cs⟩ 43)) (fun w2 => appK w2 43 2 40 p n c (some (Addr.mk w.heap.size 0 none)) 1 (fun p' c' w9 => stCells (Addr.mk gn 4 none) K 0 [.slice p' (n + 1) c'] w9)) := by
  have h0 := h.addA o hy hn hK
  exact h0.2
abbrev Nd.addR (x : Nd) (y : Txt × List Pt) : Nd := .mk x.k x.neg x.nm x.ws x.as (x.rs ++ [y]) x.os x.ks
theorem NB.addR {w0 w1 : World} {g gn B : Nat} {X : Nat → Prop} {x : Nd} {vw va vo vk : Value} {p : Option Addr} {n c : Nat} {y : Txt × List Pt} {cs : List Value} (h : NB w0 w1 g gn B X x vw va (.slice p n c) vo vk) (o : Only g w1 w) (hy : nsE.E w (fun k => w1.heap.size ≤ k ∧ k < w.heap.size) y cs) (hn : x.rs.length < 1000000) {K : World → Prop}
    (hK : ∀ p' c' w' X', NB w0 w' g gn B X' (x.addR y) vw va (.slice p' (n + 1) c') vo vk → Mod (fun k => B ≤ k) w w' → K w') :
    letW (w.alloc (.cells ⟨cs⟩ 45)) (fun w2 => w2.cell? (Addr.mk gn 5 none) = some (.slice p n c) ∧ appK w2 45 2 40 p n c (some (Addr.mk w.heap.size 0 none)) 1 (fun p' c' w9 => stCells (Addr.mk gn 5 none) K 0 [.slice p' (n + 1) c'] w9)) := by
  have h2 := h.on o
  obtain ⟨_, _, _, he, _, hg, _⟩ := id h2.ord
  injection he with _ en _
  have hgl := h2.row.lt
  have hsz := h.only.size
  have hoz := o.size
  have hgn := h2.hgn
  have hB := h2.hB
  refine Enc.OutX.push (Sw := fun wq => wq.cell? (Addr.mk gn 5 none) = some (.slice p n c)) h2.ord (by omega) (fun k hk => (h2.xs k hk).1) hgl (fun wq hq => (h2.row.still hq).lget rfl) (nsE.turn (fun k hk => ⟨?_, hk.2, fun hx => ?_⟩) (fun _ _ _ h => h) hy) (by omega) (by omega) fun p' c' w9 ho9 hm9 hw9 hl9 => ?_
  · have := h.row.lt
    omega
  · have := (h.xs k hx).1
    omega
  have hr9 := h2.row.mod hm9 (fun hk => (hg gn hk).2 rfl)
  refine stK hr9 (by simp) (by simp [Value.oneCell']) fun w10 r10 m10 z10 => hK p' c' w10 (fun k => X k ∨ (Value.slice p' (n + 1) c').ownBlock = some k) ?_ ?_
  rotate_left
  · exact Mod.trans hm9 m10 (fun k hk => (h2.xs k (hg k hk).1).2) (fun k _ hk => by omega)
  have hz9 := hm9.size
  have hz10 := m10.size
  have oth : ∀ {β : Type} {f : Enc β} {u : TypeId} {m : List β} {v' : Value}, f.OutX w B u X gn m v' → (∀ k, (Value.slice p n c).ownBlock = some k → v'.ownBlock ≠ some k) → f.OutX w10 B u (fun k => X k ∨ (Value.slice p' (n + 1) c').ownBlock = some k) gn m v' := by
    intro β f u m v' hf hne
    obtain ⟨_, _, _, _, _, hgv, _⟩ := id hf
    exact (hf.mod hm9 (fun k _ _ hs => ⟨(hg k hs).1, hne k hs⟩) (fun _ h => .inl h) (fun k hk => hk.elim .inl (fun h => hw9 k h))).mod m10 (fun k _ _ e => by subst e; exact ⟨.inl h2.xg, fun hk => (hgv _ hk).2 rfl⟩) (fun _ h => h) (fun _ h => .inl h)
  have own10 := ho9.mod m10 (X' := fun k => X k ∨ (Value.slice p' (n + 1) c').ownBlock = some k) (fun k _ _ e => by
    subst e
    obtain ⟨_, _, _, _, _, hgv, _⟩ := id ho9
    exact ⟨.inl h2.xg, fun hk => (hgv _ hk).2 rfl⟩) (fun _ h => h) (fun _ h => .inl h)
  have hlow : ∀ k, (Value.slice p' (n + 1) c').ownBlock = some k → B ≤ k := fun k hk => by
    rcases hw9 k hk with hk | hk
    · exact (h2.xs k hk).2
    · omega
  refine ⟨r10, Mod.trans (Mod.trans h2.only hm9 (fun _ h => h) (fun i hi hk => by have := (h2.xs _ (hg _ hk).1).2; omega)) m10 (fun _ h => h) (fun i hi e => by omega), h2.hg, hB, hgn, fun k hk => ?_, .inl h2.xg, oth h2.ow (fun k hk => h2.ord.apart h2.ow (by decide) hk), oth h2.oa (fun k hk => h2.ord.apart h2.oa (by decide) hk), own10, oth h2.oo (fun k hk => h2.ord.apart h2.oo (by decide) hk), oth h2.ok (fun k hk => h2.ord.apart h2.ok (by decide) hk)⟩
  rcases hk with hk | hk
  · have := h2.xs k hk
    exact ⟨by omega, this.2⟩
  · have := hl9 k hk
    exact ⟨by omega, hlow k hk⟩
theorem NB.addR' {w0 w1 : World} {g gn B : Nat} {X : Nat → Prop} {x : Nd} {vw va vo vk : Value} {p : Option Addr} {n c : Nat} {y : Txt × List Pt} {cs : List Value} (h : NB w0 w1 g gn B X x vw va (.slice p n c) vo vk) (o : Only g w1 w) (hy : nsE.E w (fun k => w1.heap.size ≤ k ∧ k < w.heap.size) y cs) (hn : x.rs.length < 1000000) {K : World → Prop}
    (hK : ∀ p' c' w' X', NB w0 w' g gn B X' (x.addR y) vw va (.slice p' (n + 1) c') vo vk → Mod (fun k => B ≤ k) w w' → K w') :
    letW (w.alloc (.cells ⟨cs⟩ 45)) (fun w2 => appK w2 45 2 40 p n c (some (Addr.mk w.heap.size 0 none)) 1 (fun p' c' w9 => stCells (Addr.mk gn 5 none) K 0 [.slice p' (n + 1) c'] w9)) := by
  have h0 := h.addR o hy hn hK
  exact h0.2
abbrev Nd.addO (x : Nd) (y : Txt) : Nd := .mk x.k x.neg x.nm x.ws x.as x.rs (x.os ++ [y]) x.ks
theorem NB.addO {w0 w1 : World} {g gn B : Nat} {X : Nat → Prop} {x : Nd} {vw va vr vk : Value} {p : Option Addr} {n c : Nat} {y : Txt} {cs : List Value} (h : NB w0 w1 g gn B X x vw va vr (.slice p n c) vk) (o : Only g w1 w) (hy : osE.E w (fun k => w1.heap.size ≤ k ∧ k < w.heap.size) y cs) (hn : x.os.length < 1000000) {K : World → Prop}
    (hK : ∀ p' c' w' X', NB w0 w' g gn B X' (x.addO y) vw va vr (.slice p' (n + 1) c') vk → Mod (fun k => B ≤ k) w w' → K w') :
    letW (w.alloc (.cells ⟨cs⟩ 9)) (fun w2 => w2.cell? (Addr.mk gn 6 none) = some (.slice p n c) ∧ appK w2 9 1 16 p n c (some (Addr.mk w.heap.size 0 none)) 1 (fun p' c' w9 => stCells (Addr.mk gn 6 none) K 0 [.slice p' (n + 1) c'] w9)) := by
  have h2 := h.on o
  obtain ⟨_, _, _, he, _, hg, _⟩ := id h2.oo
  injection he with _ en _
  have hgl := h2.row.lt
  have hsz := h.only.size
  have hoz := o.size
  have hgn := h2.hgn
  have hB := h2.hB
  refine Enc.OutX.push (Sw := fun wq => wq.cell? (Addr.mk gn 6 none) = some (.slice p n c)) h2.oo (by omega) (fun k hk => (h2.xs k hk).1) hgl (fun wq hq => (h2.row.still hq).lget rfl) (osE.turn (fun k hk => ⟨?_, hk.2, fun hx => ?_⟩) (fun _ _ _ h => h) hy) (by omega) (by omega) fun p' c' w9 ho9 hm9 hw9 hl9 => ?_
  · have := h.row.lt
    omega
  · have := (h.xs k hx).1
    omega
  have hr9 := h2.row.mod hm9 (fun hk => (hg gn hk).2 rfl)
  refine stK hr9 (by simp) (by simp [Value.oneCell']) fun w10 r10 m10 z10 => hK p' c' w10 (fun k => X k ∨ (Value.slice p' (n + 1) c').ownBlock = some k) ?_ ?_
  rotate_left
  · exact Mod.trans hm9 m10 (fun k hk => (h2.xs k (hg k hk).1).2) (fun k _ hk => by omega)
  have hz9 := hm9.size
  have hz10 := m10.size
  have oth : ∀ {β : Type} {f : Enc β} {u : TypeId} {m : List β} {v' : Value}, f.OutX w B u X gn m v' → (∀ k, (Value.slice p n c).ownBlock = some k → v'.ownBlock ≠ some k) → f.OutX w10 B u (fun k => X k ∨ (Value.slice p' (n + 1) c').ownBlock = some k) gn m v' := by
    intro β f u m v' hf hne
    obtain ⟨_, _, _, _, _, hgv, _⟩ := id hf
    exact (hf.mod hm9 (fun k _ _ hs => ⟨(hg k hs).1, hne k hs⟩) (fun _ h => .inl h) (fun k hk => hk.elim .inl (fun h => hw9 k h))).mod m10 (fun k _ _ e => by subst e; exact ⟨.inl h2.xg, fun hk => (hgv _ hk).2 rfl⟩) (fun _ h => h) (fun _ h => .inl h)
  have own10 := ho9.mod m10 (X' := fun k => X k ∨ (Value.slice p' (n + 1) c').ownBlock = some k) (fun k _ _ e => by
    subst e
    obtain ⟨_, _, _, _, _, hgv, _⟩ := id ho9
    exact ⟨.inl h2.xg, fun hk => (hgv _ hk).2 rfl⟩) (fun _ h => h) (fun _ h => .inl h)
  have hlow : ∀ k, (Value.slice p' (n + 1) c').ownBlock = some k → B ≤ k := fun k hk => by
    rcases hw9 k hk with hk | hk
    · exact (h2.xs k hk).2
    · omega
  refine ⟨r10, Mod.trans (Mod.trans h2.only hm9 (fun _ h => h) (fun i hi hk => by have := (h2.xs _ (hg _ hk).1).2; omega)) m10 (fun _ h => h) (fun i hi e => by omega), h2.hg, hB, hgn, fun k hk => ?_, .inl h2.xg, oth h2.ow (fun k hk => h2.oo.apart h2.ow (by decide) hk), oth h2.oa (fun k hk => h2.oo.apart h2.oa (by decide) hk), oth h2.ord (fun k hk => h2.oo.apart h2.ord (by decide) hk), own10, oth h2.ok (fun k hk => h2.oo.apart h2.ok (by decide) hk)⟩
  rcases hk with hk | hk
  · have := h2.xs k hk
    exact ⟨by omega, this.2⟩
  · have := hl9 k hk
    exact ⟨by omega, hlow k hk⟩
abbrev Nd.addK (x : Nd) (y : Nd) : Nd := .mk x.k x.neg x.nm x.ws x.as x.rs x.os (x.ks ++ [y])
theorem NB.addK {w0 w1 : World} {g gn B : Nat} {X : Nat → Prop} {x : Nd} {vw va vr vo : Value} {p : Option Addr} {n c : Nat} {y : Nd} {cs : List Value} (h : NB w0 w1 g gn B X x vw va vr vo (.slice p n c)) (o : Only g w1 w) (hy : ndE.E w (fun k => w1.heap.size ≤ k ∧ k < w.heap.size) y cs) (hn : x.ks.length < 1000000) {K : World → Prop}
    (hK : ∀ p' c' w' X', NB w0 w' g gn B X' (x.addK y) vw va vr vo (.slice p' (n + 1) c') → Mod (fun k => B ≤ k) w w' → K w') :
    letW (w.alloc (.cells ⟨cs⟩ 28)) (fun w2 => w2.cell? (Addr.mk gn 7 none) = some (.slice p n c) ∧ appK w2 28 8 152 p n c (some (Addr.mk w.heap.size 0 none)) 1 (fun p' c' w9 => stCells (Addr.mk gn 7 none) K 0 [.slice p' (n + 1) c'] w9)) := by
  have h2 := h.on o
  obtain ⟨_, _, _, he, _, hg, _⟩ := id h2.ok
  injection he with _ en _
  have hgl := h2.row.lt
  have hsz := h.only.size
  have hoz := o.size
  have hgn := h2.hgn
  have hB := h2.hB
  refine Enc.OutX.push (Sw := fun wq => wq.cell? (Addr.mk gn 7 none) = some (.slice p n c)) h2.ok (by omega) (fun k hk => (h2.xs k hk).1) hgl (fun wq hq => (h2.row.still hq).lget rfl) (ndE.turn (fun k hk => ⟨?_, hk.2, fun hx => ?_⟩) (fun _ _ _ h => h) hy) (by omega) (by omega) fun p' c' w9 ho9 hm9 hw9 hl9 => ?_
  · have := h.row.lt
    omega
  · have := (h.xs k hx).1
    omega
  have hr9 := h2.row.mod hm9 (fun hk => (hg gn hk).2 rfl)
  refine stK hr9 (by simp) (by simp [Value.oneCell']) fun w10 r10 m10 z10 => hK p' c' w10 (fun k => X k ∨ (Value.slice p' (n + 1) c').ownBlock = some k) ?_ ?_
  rotate_left
  · exact Mod.trans hm9 m10 (fun k hk => (h2.xs k (hg k hk).1).2) (fun k _ hk => by omega)
  have hz9 := hm9.size
  have hz10 := m10.size
  have oth : ∀ {β : Type} {f : Enc β} {u : TypeId} {m : List β} {v' : Value}, f.OutX w B u X gn m v' → (∀ k, (Value.slice p n c).ownBlock = some k → v'.ownBlock ≠ some k) → f.OutX w10 B u (fun k => X k ∨ (Value.slice p' (n + 1) c').ownBlock = some k) gn m v' := by
    intro β f u m v' hf hne
    obtain ⟨_, _, _, _, _, hgv, _⟩ := id hf
    exact (hf.mod hm9 (fun k _ _ hs => ⟨(hg k hs).1, hne k hs⟩) (fun _ h => .inl h) (fun k hk => hk.elim .inl (fun h => hw9 k h))).mod m10 (fun k _ _ e => by subst e; exact ⟨.inl h2.xg, fun hk => (hgv _ hk).2 rfl⟩) (fun _ h => h) (fun _ h => .inl h)
  have own10 := ho9.mod m10 (X' := fun k => X k ∨ (Value.slice p' (n + 1) c').ownBlock = some k) (fun k _ _ e => by
    subst e
    obtain ⟨_, _, _, _, _, hgv, _⟩ := id ho9
    exact ⟨.inl h2.xg, fun hk => (hgv _ hk).2 rfl⟩) (fun _ h => h) (fun _ h => .inl h)
  have hlow : ∀ k, (Value.slice p' (n + 1) c').ownBlock = some k → B ≤ k := fun k hk => by
    rcases hw9 k hk with hk | hk
    · exact (h2.xs k hk).2
    · omega
  refine ⟨r10, Mod.trans (Mod.trans h2.only hm9 (fun _ h => h) (fun i hi hk => by have := (h2.xs _ (hg _ hk).1).2; omega)) m10 (fun _ h => h) (fun i hi e => by omega), h2.hg, hB, hgn, fun k hk => ?_, .inl h2.xg, oth h2.ow (fun k hk => h2.ok.apart h2.ow (by decide) hk), oth h2.oa (fun k hk => h2.ok.apart h2.oa (by decide) hk), oth h2.ord (fun k hk => h2.ok.apart h2.ord (by decide) hk), oth h2.oo (fun k hk => h2.ok.apart h2.oo (by decide) hk), own10⟩
  rcases hk with hk | hk
  · have := h2.xs k hk
    exact ⟨by omega, this.2⟩
  · have := hl9 k hk
    exact ⟨by omega, hlow k hk⟩
theorem NB.addK' {w0 w1 : World} {g gn B : Nat} {X : Nat → Prop} {x : Nd} {vw va vr vo : Value} {p : Option Addr} {n c : Nat} {y : Nd} {cs : List Value} (h : NB w0 w1 g gn B X x vw va vr vo (.slice p n c)) (o : Only g w1 w) (hy : ndE.E w (fun k => w1.heap.size ≤ k ∧ k < w.heap.size) y cs) (hn : x.ks.length < 1000000) {K : World → Prop}
    (hK : ∀ p' c' w' X', NB w0 w' g gn B X' (x.addK y) vw va vr vo (.slice p' (n + 1) c') → Mod (fun k => B ≤ k) w w' → K w') :
    letW (w.alloc (.cells ⟨cs⟩ 28)) (fun w2 => appK w2 28 8 152 p n c (some (Addr.mk w.heap.size 0 none)) 1 (fun p' c' w9 => stCells (Addr.mk gn 7 none) K 0 [.slice p' (n + 1) c'] w9)) := by
  have h0 := h.addK o hy hn hK
  exact h0.2
theorem Only.tr {g : Nat} {a b c : World} (h : Only g a b) (k : Only g b c) : Only g a c := Mod.trans h k (fun _ h => h) (fun _ _ h => h)
def asgR (s : Ts) : Option (Rs ((Txt × List Pt) × Ts)) := match s with
  | (_, t) :: r => (asgF t).map fun y => (wpL 30 y.2).and fun l => .ok ((y.1, l), r)
  | [] => none
theorem pipeN_two {neg : Bool} {ks : List Nd} (h : ¬ (ks.length = 1 ∧ neg = false)) : pipeN neg ks = .mk 1 neg [] [] [] [] [] ks := by
  match ks with
  | [] => rfl
  | [k] =>
    cases neg with
    | true => rfl
    | false => exact absurd ⟨rfl, rfl⟩ h
  | a :: b :: r => rfl
theorem NB.more {w0 w' : World} {g gn B : Nat} {X Y : Nat → Prop} {x : Nd} {vw va vr vo vk : Value} (h : NB w0 w g gn B X x vw va vr vo vk) (hm : Still w w') (hXY : ∀ k, X k → Y k) (hYX : ∀ k, Y k → X k ∨ (w.heap.size ≤ k ∧ k < w'.heap.size)) : NB w0 w' g gn B Y x vw va vr vo vk := by
  have hz := hm.size
  have hl := h.row.lt
  have hgn := h.hgn
  have hv : ∀ k, Y k → X k ∨ w.heap.size ≤ k := fun k hk => (hYX k hk).imp_right And.left
  refine ⟨h.row.still hm, h.only.tr hm.only, h.hg, h.hB, h.hgn, fun k hk => ?_, hXY _ h.xg, ?_, ?_, ?_, ?_, ?_⟩
  · rcases hYX k hk with hk | hk
    · exact ⟨Nat.lt_of_lt_of_le (h.xs k hk).1 hz, (h.xs k hk).2⟩
    · exact ⟨hk.2, by omega⟩
  · exact h.ow.mod hm (fun _ _ _ h => h.elim) hXY hv
  · exact h.oa.mod hm (fun _ _ _ h => h.elim) hXY hv
  · exact h.ord.mod hm (fun _ _ _ h => h.elim) hXY hv
  · exact h.oo.mod hm (fun _ _ _ h => h.elim) hXY hv
  · exact h.ok.mod hm (fun _ _ _ h => h.elim) hXY hv
abbrev Nd.setK (x : Nd) (y : Nd) : Nd := .mk x.k x.neg x.nm x.ws x.as x.rs x.os [y]
abbrev Nd.setO (x : Nd) (y : Txt) : Nd := .mk x.k x.neg x.nm x.ws x.as x.rs [y] x.ks
theorem setK_spec {w0 w1 : World} {g gn B : Nat} {X : Nat → Prop} {x y : Nd} {vw va vr vo vk : Value} {cs : List Value} (nb : NB w0 w1 g gn B X x vw va vr vo vk) (o : Only g w1 w) (hn : NdE w (fun k => w1.heap.size ≤ k ∧ k < w.heap.size) y cs) {K : World → Prop}
    (hK : ∀ vk' w' X', NB w0 w' g gn B X' (x.setK y) vw va vr vo vk' → Mod (fun k => B ≤ k) w w' → K w') :
    letW (w.alloc (.cells ⟨cs⟩ 28)) (fun w2 => stCells (Addr.mk gn 7 none) K 0 [.slice (some (Addr.mk w.heap.size 0 none)) 1 1] w2) := by
  have nb1 := nb.on o
  have hl := nb.row.lt
  have hl1 := nb1.row.lt
  have hB := nb.hB
  have hgn := nb.hgn
  have hzo := o.size
  refine allocK fun w2 r2 s2 z2 => ?_
  have nb2 := nb1.more (Y := fun k => X k ∨ k = w.heap.size) s2 (fun k hk => .inl hk) (fun k hk => hk.imp_right fun e => by omega)
  refine stK nb2.row (by simp) (by simp [Value.oneCell']) fun w3 r3 m3 z3 => hK _ w3 _ (nb2.put m3 (y := x.setK y) r3 (.inr ⟨rfl, rfl⟩) ⟨rfl, rfl⟩ ⟨rfl, rfl⟩ (.inr ⟨rfl, rfl⟩) (.inl ?_)) (Mod.trans s2 m3 (fun _ h => h.elim) (fun k _ e => by omega))
  have hn3 := (hn.still s2).mod m3 (fun k hk e => by omega)
  refine Enc.OutX.row (l := [y]) (r2.mod m3 (by omega)) (by omega) (by omega) (.inr rfl) (show 1 ≤ 1000000 by decide) (Enc.Cs.single (hn3.mono fun k hk => ⟨by omega, by omega, fun hx => ?_⟩))
  rcases hx with hx | hx
  · have := (nb.xs k hx).1
    omega
  · omega
theorem setO_spec {w0 : World} {g gn B : Nat} {X : Nat → Prop} {x : Nd} {y : Txt} {vw va vr vo vk : Value} (nb : NB w0 w g gn B X x vw va vr vo vk) {K : World → Prop}
    (hK : ∀ vo' w' X', NB w0 w' g gn B X' (x.setO y) vw va vr vo' vk → Mod (fun k => B ≤ k) w w' → K w') :
    letW (w.alloc (.cells ⟨[.string (S y)]⟩ 9)) (fun w2 => stCells (Addr.mk gn 6 none) K 0 [.slice (some (Addr.mk w.heap.size 0 none)) 1 1] w2) := by
  have hl := nb.row.lt
  have hB := nb.hB
  have hgn := nb.hgn
  refine allocK fun w2 r2 s2 z2 => ?_
  have nb2 := nb.more (Y := fun k => X k ∨ k = w.heap.size) s2 (fun k hk => .inl hk) (fun k hk => hk.imp_right fun e => by omega)
  refine stK nb2.row (by simp) (by simp [Value.oneCell']) fun w3 r3 m3 z3 => hK _ w3 _ (nb2.put m3 (y := x.setO y) r3 (.inr ⟨rfl, rfl⟩) ⟨rfl, rfl⟩ ⟨rfl, rfl⟩ (.inl ?_) (.inr ⟨rfl, rfl⟩)) (Mod.trans s2 m3 (fun _ h => h.elim) (fun k _ e => by omega))
  exact Enc.OutX.row (l := [y]) (r2.mod m3 (by omega)) (by omega) (by omega) (.inr rfl) (show 1 ≤ 1000000 by decide) (Enc.Cs.single rfl)
theorem NB.mkW {w0 : World} {g gn B : Nat} {x : Nd} {y : List Pt} {b : Nat} {v : Value} (hr : Row w gn 28 ⟨ncell x (.slice (some ⟨b, 0, none⟩) 1 1) (.slice none 0 0) (.slice none 0 0) (.slice none 0 0) (.slice none 0 0)⟩) (hb : Row w b 41 ⟨[v]⟩) (hc : SlAt w (fun k => B ≤ k ∧ k < w.heap.size ∧ k ≠ gn ∧ k ≠ b) y v) (ho : Only g w0 w) (hg : g < w0.heap.size) (hB : w0.heap.size ≤ B) (hgn : B ≤ gn) (hbB : B ≤ b) (hne : b ≠ gn) (hx : x.ws = [y] ∧ x.as = [] ∧ x.rs = [] ∧ x.os = [] ∧ x.ks = []) :
    NB w0 w g gn B (fun k => k = gn ∨ k = b) x (.slice (some ⟨b, 0, none⟩) 1 1) (.slice none 0 0) (.slice none 0 0) (.slice none 0 0) (.slice none 0 0) := by
  obtain ⟨h1, h2, h3, h4, h5⟩ := hx
  refine ⟨hr, ho, hg, hB, hgn, fun k hk => ?_, .inl rfl, ?_, ?_, ?_, ?_, ?_⟩
  · rcases hk with rfl | rfl
    · exact ⟨hr.lt, hgn⟩
    · exact ⟨hb.lt, hbB⟩
  · rw [h1]
    exact Enc.OutX.row (l := [y]) hb hbB hne (.inr rfl) (show 1 ≤ 1000000 by decide) (Enc.Cs.single ⟨v, rfl, hc.turn (fun k hk => ⟨hk.1, hk.2.1, fun h => h.elim hk.2.2.1 hk.2.2.2⟩) (fun _ _ _ h => h)⟩)
  · rw [h2]; exact Enc.OutX.nil _ _ _ _ _ _
  · rw [h3]; exact Enc.OutX.nil _ _ _ _ _ _
  · rw [h4]; exact Enc.OutX.nil _ _ _ _ _ _
  · rw [h5]; exact Enc.OutX.nil _ _ _ _ _ _
theorem dep_up {L : Nat} (hL : L < 100) : IntKind.i64.wrap (31 - ((L + 1 : Nat) : Int) + 1) = 31 - (L : Int) := by
  rw [wrap_i64 (by omega) (by omega)]
  omega
def replB (c : UInt8) (nw s : List UInt8) : List UInt8 := s.flatMap fun b => if b = c then nw else [b]
theorem replB_append (c : UInt8) (nw s t : List UInt8) : replB c nw (s ++ t) = replB c nw s ++ replB c nw t := by simp [replB]
theorem replB_none {c : UInt8} {nw : List UInt8} : ∀ {s : List UInt8}, s.count c = 0 → replB c nw s = s
  | [], _ => rfl
  | b :: s, h => by
    have hb : b ≠ c := by rintro rfl; simp at h
    rw [List.count_cons_of_ne hb] at h
    have := replB_none (nw := nw) h
    simp only [replB, List.flatMap_cons, if_neg hb] at this ⊢
    rw [this]
    rfl
theorem replB_length {c : UInt8} {nw : List UInt8} : ∀ s : List UInt8, (replB c nw s).length + s.count c = s.length + nw.length * s.count c
  | [] => by simp [replB]
  | b :: s => by
    have ih := replB_length (c := c) (nw := nw) s
    have e : replB c nw (b :: s) = (if b = c then nw else [b]) ++ replB c nw s := rfl
    by_cases hb : b = c
    · subst hb
      rw [e, if_pos rfl, List.length_append, List.count_cons_self, List.length_cons, Nat.mul_add]
      omega
    · rw [e, if_neg hb, List.length_append, List.count_cons_of_ne hb, List.length_cons]
      simp only [List.length_cons, List.length_nil]
      omega
theorem count_le {c : UInt8} (s : List UInt8) : s.count c ≤ s.length := List.count_le_length
theorem next_idx {c : UInt8} : ∀ {s : List UInt8}, 0 < s.count c → ∃ k : Nat, Lib.indexByte s c = (k : Int) ∧ k < s.length ∧ (s.take k).count c = 0 ∧ s[k]? = some c
  | b :: s, h => by
    by_cases hb : b = c
    · subst hb
      exact ⟨0, by simp [Lib.indexByte], by simp, by simp, rfl⟩
    · rw [List.count_cons_of_ne hb] at h
      obtain ⟨k, h1, h2, h3, h4⟩ := next_idx h
      refine ⟨k + 1, ?_, by simp; omega, by rw [List.take_succ_cons, List.count_cons_of_ne hb]; exact h3, by simpa using h4⟩
      simp only [Lib.indexByte, h1]
      have : (b == c) = false := by simpa using hb
      rw [this]
      have h2 : (((k : Nat) : Int) == -1) = false := by
        rw [beq_eq_false_iff_ne]
        omega
      simp [h2]
theorem liesB_own : LiesB 71 2 0 := by unfold LiesB; kernel_rfl
theorem replace_spec (c : UInt8) (nw s : List UInt8) (hs : s.length ≤ 1000000) (h0 : nw ≠ []) (h1 : nw.length ≤ 100) (hne : nw ≠ [c]) :
    Calls Tryz.prog fn_strings_Replace #[.string (S s), .string (S [c]), .string (S nw), .int .i64 (-1)] w (fun e w' => e = .returned (.string (S (replB c nw s))) ∧ Still w w') := by
  refine strings_Replace_calls _ _ _ _ _ _ ?_
  have hcl := count_le (c := c) s
  have hrl := replB_length (c := c) (nw := nw) s
  have hnw : 0 < nw.length := List.length_pos_iff.2 h0
  refine bsel_of (fun h => absurd (of_decide_eq_true h).symm hne) (fun _ => bsel_of (fun h => by simp at h) (fun _ => ?_))
  refine ⟨fun m w1 => m = (s.count c : Int) ∧ 0 < s.count c ∧ w1 = w, (Tryz.strings_Count_one (S s) c w).mono ?_, ?_⟩
  · rintro _ w1 ⟨rfl, rfl⟩
    refine .inl ⟨_, rfl, bsel_of (fun h => ?_) (fun h => ?_)⟩
    · have h : s.count c = 0 := by have := of_decide_eq_true h; exact Int.ofNat_eq_zero.1 this
      exact ⟨by rw [replB_none h], Mod.refl _ _⟩
    · have h : s.count c ≠ 0 := by
        have := of_decide_eq_false h
        exact fun e => this (by show ((Lib.countByte s c : Nat) : Int) = 0; unfold Lib.countByte; rw [e]; rfl)
      refine ⟨fun x w2 => x = true ∧ w2 = w1, bsel_of (fun _ => ⟨rfl, rfl⟩) (fun h => by simp at h), ?_⟩
      rintro _ _ w2 ⟨rfl, rfl⟩
      exact bsel_of (fun _ => ⟨rfl, by omega, rfl⟩) (fun h => by cases h)
  rintro _ _ w1 ⟨rfl, hpos, rfl⟩
  have hmul : nw.length * s.count c ≤ 100 * 1000000 := Nat.mul_le_mul h1 (by omega)
  have hmul2 : s.count c * nw.length = nw.length * s.count c := Nat.mul_comm _ _
  have hmul3 : s.count c ≤ nw.length * s.count c := Nat.le_mul_of_pos_left _ hnw
  have eg : IntKind.i64.wrap ((s.length : Int) + IntKind.i64.wrap ((s.count c : Int) * IntKind.i64.wrap ((nw.length : Int) - (([c] : List UInt8).length : Int)))) = ((s.length + (nw.length * s.count c - s.count c) : Nat) : Int) := by
    have e1 : IntKind.i64.wrap ((nw.length : Int) - (([c] : List UInt8).length : Int)) = ((nw.length - 1 : Nat) : Int) := by
      simp only [List.length_cons, List.length_nil]
      rw [wrap_i64 (by omega) (by omega)]
      omega
    have e2 : (s.count c : Int) * ((nw.length - 1 : Nat) : Int) = ((nw.length * s.count c - s.count c : Nat) : Int) := by
      rw [← Int.natCast_mul, Nat.mul_sub, Nat.mul_one, hmul2]
    have e3 := wrap_i64 (n := ((nw.length * s.count c - s.count c : Nat) : Int)) (by omega) (by omega)
    rw [e1, e2, e3, wrap_i64 (by omega) (by omega)]
    omega
  rw [eg]
  unfold letW
  have hbk : (w1.alloc (.cells #[(.pointer none), (.slice none 0 0)] 71)).heap[w1.heap.size]? = some (.cells #[(.pointer none), (.slice none 0 0)] 71 (0, 0)) := heap_alloc_new w1 _
  have hsz : (w1.alloc (.cells #[(.pointer none), (.slice none 0 0)] 71)).heap.size = w1.heap.size + 1 := World.size_alloc ..
  have hst0 : Still w1 (w1.alloc (.cells #[(.pointer none), (.slice none 0 0)] 71)) := (Mod.refl _ _).alloc _
  generalize hw2 : w1.alloc (.cells #[(.pointer none), (.slice none 0 0)] 71) = w2 at *
  refine (Tryz.Builder_Grow_fresh w1.heap.size w1.heap.size _ w2 (Nat.le_refl _) hbk (by omega) (by omega)).mono ?_
  rintro _ w3 ⟨rfl, hB3, hb3⟩
  refine .inl ⟨rfl, bsel_of (fun _ => ?_) (fun h => by simp at h)⟩
  obtain ⟨_, v3, hb3h, hown3, hne3⟩ := hB3
  have hst3 : Still w1 w3 := hst0.trans' hb3 (by omega)
  have hB : BldAt0 w3 71 w1.heap.size 0 w1.heap.size [.pointer (some ⟨w1.heap.size, 0, none⟩), v3] v3 [] := ⟨Row.of0 hb3h, .inr rfl, rfl, Owns.of hown3, hne3⟩
  have l1 : ∀ a b, LiesB 71 (([a, b] : List Value).length) 0 := fun _ _ => liesB_own
  refine ⟨fun st i w4 => ∃ (k n : Nat) (v : Value), st = (k : Int) ∧ i = (n : Int) ∧ k ≤ s.length ∧ n = (s.take k).count c ∧ n ≤ s.count c ∧ BldAt0 w4 71 w1.heap.size 0 w1.heap.size [.pointer (some ⟨w1.heap.size, 0, none⟩), v] v (replB c nw (s.take k)) ∧ Still w1 w4,
    fun _ i _ => s.count c - i.toNat, ⟨0, 0, v3, rfl, rfl, Nat.zero_le _, rfl, Nat.zero_le _, hB, hst3⟩, ?_⟩
  rintro _ _ _ w4 ⟨k, n, v, rfl, rfl, hk, hn, hnm, hB4, hst4⟩
  have hcount : (s.take k).count c + (s.drop k).count c = s.count c := by rw [← List.count_append, List.take_append_drop]
  have hrk := replB_append c nw (s.take k) (s.drop k)
  rw [List.take_append_drop] at hrk
  have hrkl : (replB c nw (s.take k)).length + (replB c nw (s.drop k)).length = (replB c nw s).length := by rw [hrk, List.length_append]
  have hdl : (s.drop k).length = s.length - k := List.length_drop
  have hrd := replB_length (c := c) (nw := nw) (s.drop k)
  simp only [Int.toNat_natCast]
  refine bsel_of (fun hx => ?_) (fun hx => ?_)
  · have hx : n < s.count c := by have := of_decide_eq_true hx; omega
    obtain ⟨j, hj1, hj2, hj3, hj4⟩ := next_idx (c := c) (s := s.drop k) (by omega)
    have hkj : s.drop k = (s.drop k).take j ++ c :: s.drop (k + j + 1) := by
      have h := (List.getElem?_eq_some_iff.1 hj4)
      obtain ⟨h, h'⟩ := h
      conv => lhs; rw [← List.take_append_drop j (s.drop k)]
      rw [List.drop_eq_getElem_cons h, h', List.drop_drop]
      rfl
    have htake : s.take (k + j + 1) = s.take k ++ ((s.drop k).take j ++ [c]) := by
      have h := (List.getElem?_eq_some_iff.1 hj4)
      obtain ⟨h, h'⟩ := h
      rw [Nat.add_assoc, List.take_add, List.take_add_one, hj4]
      rfl
    have hrt : replB c nw (s.take (k + j + 1)) = replB c nw (s.take k) ++ (s.drop k).take j ++ nw := by
      rw [htake, replB_append, replB_append, replB_none hj3, List.append_assoc]
      simp [replB]
    have hrl2 : (replB c nw (s.take (k + j + 1))).length ≤ (replB c nw s).length := by
      have := replB_append c nw (s.take (k + j + 1)) (s.drop (k + j + 1))
      rw [List.take_append_drop] at this
      rw [this, List.length_append]
      omega
    rw [hrt, List.length_append, List.length_append] at hrl2
    refine ⟨by omega, by omega, (Tryz.strings_Index_one (S (s.drop k)) c w4).mono ?_⟩
    rintro _ w5 ⟨rfl, rfl⟩
    have e5 : Lib.indexByte (S (s.drop k)).data.toList c = (j : Int) := hj1
    rw [e5]
    have ej : IntKind.i64.wrap ((k : Int) + (j : Int)) = ((k + j : Nat) : Int) := by rw [wrap_i64 (by omega) (by omega)]; omega
    have ej1 : IntKind.i64.wrap (((k + j : Nat) : Int) + (([c] : List UInt8).length : Int)) = ((k + j + 1 : Nat) : Int) := by
      simp only [List.length_cons, List.length_nil]
      rw [wrap_i64 (by omega) (by omega)]
      omega
    have en : IntKind.i64.wrap ((n : Int) + 1) = ((n + 1 : Nat) : Int) := by rw [wrap_i64 (by omega) (by omega)]; omega
    refine .inl ⟨_, rfl, by omega, by rw [ej]; omega, by rw [ej]; omega, ?_⟩
    rw [ej, ej1, en, Int.toNat_natCast, Nat.add_sub_cancel_left]
    refine (writeString_spec0 hB4 (l1 _ _) _ (by have := hst4.size; omega) (by omega)).mono ?_
    rintro _ w6 ⟨rfl, v6, hB6, _, hm6⟩
    have hst6 : Still w1 w6 := Mod.trans hst4 hm6 (fun _ h => h) (fun i hi e => by
      rcases e with rfl | e
      · omega
      · have := hB4.own.ownLt e; omega)
    refine .inl ⟨_, _, rfl, rfl, (writeString_spec0 hB6 (l1 _ _) nw (by have := hst6.size; omega) (by rw [List.length_append]; omega)).mono ?_⟩
    rintro _ w7 ⟨rfl, v7, hB7, _, hm7⟩
    have hst7 : Still w1 w7 := Mod.trans hst6 hm7 (fun _ h => h) (fun i hi e => by
      rcases e with rfl | e
      · omega
      · have := hB6.own.ownLt e; omega)
    refine .inl ⟨_, _, rfl, rfl, ⟨k + j + 1, n + 1, v7, rfl, rfl, by omega, ?_, hx, ?_, hst7⟩, by omega⟩
    · rw [htake, List.count_append, List.count_append, hj3, hn]
      simp
    · rw [hrt]
      exact hB7
  · have hx : n = s.count c := by have := of_decide_eq_false hx; omega
    have hd0 : (s.drop k).count c = 0 := by omega
    refine ⟨by omega, by omega, (writeString_spec0 hB4 (l1 _ _) _ (by have := hst4.size; omega) (by rw [replB_none hd0] at hrkl; omega)).mono ?_⟩
    rintro _ w6 ⟨rfl, v6, hB6, _, hm6⟩
    have hst6 : Still w1 w6 := Mod.trans hst4 hm6 (fun _ h => h) (fun i hi e => by
      rcases e with rfl | e
      · omega
      · have := hB4.own.ownLt e; omega)
    have e : replB c nw (s.take k) ++ s.drop k = replB c nw s := by rw [hrk, replB_none hd0]
    rw [e] at hB6
    have hnil : replB c nw s ≠ [] := by
      intro e
      rw [e] at hrl
      simp only [List.length_nil] at hrl
      omega
    refine .inl ⟨_, _, rfl, rfl, (string_spec (hB6.roomy hnil) (by omega)).mono ?_⟩
    rintro _ w7 ⟨rfl, hm7⟩
    exact .inl ⟨_, rfl, rfl, Mod.trans hst6 hm7 (fun _ h => h) (fun i hi e => by have := hB6.own.ownLt e; omega)⟩
theorem replaceAll_spec (c : UInt8) (nw s : List UInt8) (hs : s.length ≤ 1000000) (h0 : nw ≠ []) (h1 : nw.length ≤ 100) (hne : nw ≠ [c]) :
    Calls Tryz.prog fn_strings_ReplaceAll #[.string (S s), .string (S [c]), .string (S nw)] w (fun e w' => e = .returned (.string (S (replB c nw s))) ∧ Still w w') := by
  refine strings_ReplaceAll_calls _ _ _ _ _ ((replace_spec c nw s hs h0 h1 hne).mono ?_)
  rintro _ w1 ⟨rfl, h⟩
  exact .inl ⟨_, rfl, rfl, h⟩
def Bd (w : World) (g B : Nat) (bs : Txt) : Prop := ∃ cs v, cs.length = 2 ∧ BldAt w 71 g 0 B cs v bs
theorem Bd.still {w' : World} {g B : Nat} {bs : Txt} (h : Bd w g B bs) (hm : Still w w') : Bd w' g B bs := by
  obtain ⟨cs, v, h1, h2⟩ := h
  exact ⟨cs, v, h1, h2.still hm⟩
theorem Bd.write {g B : Nat} {bs : Txt} (h : Bd w g B bs) (s : Txt) (hB : B ≤ w.heap.size) (hs : bs.length + s.length ≤ 140737488355328) {w0 : World} (h0 : Still w0 w) (hg : w0.heap.size ≤ g) (hB0 : w0.heap.size ≤ B) :
    Calls Tryz.prog fn_strings_Builder_WriteString #[.pointer (some ⟨g, 0, none⟩), .string (S s)] w (fun e w' => e = .returned (.tuple #[.int .i64 (s.length : Int), .nilIface]) ∧ Bd w' g B (bs ++ s) ∧ Still w0 w' ∧ w.heap.size ≤ w'.heap.size) := by
  obtain ⟨cs, v, h1, h2⟩ := h
  have hl : LiesB 71 cs.length 0 := by rw [h1]; exact liesB_own
  refine (writeString_spec h2 hl s hB hs).mono ?_
  rintro _ w' ⟨rfl, v', h3, h4⟩
  refine ⟨rfl, ⟨_, v', by simp [h1], h3⟩, Mod.trans h0 h4 (fun _ h => h) (fun k hk e => ?_), h4.size⟩
  rcases e with e | e
  · omega
  · have := (h2.own.lt k e).1; omega
theorem Bd.told {g B : Nat} {bs : Txt} (h : Bd w g B bs) (hs : bs.length ≤ 140737488355328) {w0 : World} (h0 : Still w0 w) (hB0 : w0.heap.size ≤ B) : Calls Tryz.prog fn_strings_Builder_String #[.pointer (some ⟨g, 0, none⟩)] w (fun e w' => e = .returned (.string (S bs)) ∧ Still w0 w') := by
  obtain ⟨cs, v, h1, h2⟩ := h
  refine (string_spec h2 hs).mono ?_
  rintro _ w' ⟨rfl, h4⟩
  exact ⟨rfl, Mod.trans h0 h4 (fun _ h => h) fun k hk e => by have := (h2.own.lt k e).1; omega⟩
def core (x : Pt) : Txt := if x.k = 2 then [36, 40] ++ x.t ++ [41] else if x.k = 3 then [36, 40, 40] ++ x.t ++ [41, 41] else if x.k = 1 then (if x.o = lenO then [36, 123, 35] ++ x.n ++ [125] else [36, 123] ++ x.n ++ x.o ++ prL x.w ++ [125]) else []
theorem pr_core (x : Pt) : x.pr = if x.k = 0 then (if x.q = true then single x.t else x.t) else wrapQ x.q (core x) := by
  cases x
  rfl
theorem single_repl (t : Txt) : single t = 39 :: replB 39 [39, 92, 39, 39] t ++ [39] := rfl
theorem prL_take {l : List Pt} {k : Nat} (h : k < l.length) : prL (l.take (k + 1)) = prL (l.take k) ++ l[k].pr := by
  rw [take_one h, prL_append]
  simp [prL]
theorem core_len (x : Pt) : (core x).length + 2 ≤ x.wt := by
  have h1 := x.wt_eq
  have h2 := prL_len x.w
  unfold core
  split
  · simp; omega
  · split
    · simp; omega
    · split
      · split
        · simp; omega
        · simp; omega
      · simp only [List.length_nil]; omega
theorem plain_of {x : Pt} {F : Nat → Prop} {vw : Value} (hw : SlAt w F x.w vw) (hl : x.wt < 1000000) (ih : ∀ w1, Still w w1 → Calls Tryz.prog fn_word_Print #[vw] w1 (fun e w' => e = .returned (.string (S (prL x.w))) ∧ Still w1 w')) :
    Calls Tryz.prog fn_word_plain #[pagg x vw] w (fun e w' => e = .returned (.string (S (core x))) ∧ Still w w') := by
  obtain ⟨wp, wc, rfl⟩ := hw.form
  have h1 := x.wt_eq
  have h2 := prL_len x.w
  refine word_plain_calls _ _ _ _ _ _ _ _ _ _ ?_
  refine allocK fun w1 r1 s1 z1 => ?_
  obtain ⟨f0, f1, f2, f3, f4, f5⟩ := box_fields (x := x) r1
  unfold core
  refine ⟨_, f0, bsel_of (fun h => ?_) (fun h => bsel_of (fun h3 => ?_) (fun h3 => bsel_of (fun h4 => ⟨_, f4, bsel_of (fun h5 => ?_) (fun h5 => ?_)⟩) (fun h4 => ?_)))⟩
  · rw [if_pos (of_decide_eq_true h)]
    exact ⟨_, f2, by simp only [List.length_cons, List.length_nil]; omega, by simp only [List.length_append, List.length_cons, List.length_nil]; omega, rfl, s1⟩
  · rw [if_neg (of_decide_eq_false h), if_pos (of_decide_eq_true h3)]
    exact ⟨_, f2, by simp only [List.length_cons, List.length_nil]; omega, by simp only [List.length_append, List.length_cons, List.length_nil]; omega, rfl, s1⟩
  · rw [if_neg (of_decide_eq_false h), if_neg (of_decide_eq_false h3), if_pos (of_decide_eq_true h4), if_pos (of_decide_eq_true h5)]
    exact ⟨_, f3, by simp only [List.length_cons, List.length_nil]; omega, by simp only [List.length_append, List.length_cons, List.length_nil]; omega, rfl, s1⟩
  · rw [if_neg (of_decide_eq_false h), if_neg (of_decide_eq_false h3), if_pos (of_decide_eq_true h4), if_neg (of_decide_eq_false h5)]
    have rd : ∀ wq : World, Still w1 wq → Row wq w.heap.size 63 ⟨pcell x (.slice wp x.w.length wc)⟩ := fun wq hq => r1.still hq
    refine ⟨fun wq => Still w1 wq, drew_still w1, x.n, fun wq hq => (rd wq hq).lget rfl, by simp only [List.length_cons, List.length_nil]; omega, x.o, fun wq hq => (rd wq hq).lget rfl, by simp only [List.length_append, List.length_cons, List.length_nil]; omega, wp, x.w.length, wc, fun wq hq => (rd wq hq).lget rfl, ?_⟩
    refine (ih w1.drew s1.toDrew).mono ?_
    rintro _ w2 ⟨rfl, s2⟩
    exact .inl ⟨_, rfl, (drew_still w1).trans s2, by simp only [List.length_append, List.length_cons, List.length_nil]; omega, by simp only [List.length_append, List.length_cons, List.length_nil]; omega, rfl, s1.toDrew.trans s2⟩
  · rw [if_neg (of_decide_eq_false h), if_neg (of_decide_eq_false h3), if_neg (of_decide_eq_false h4)]
    exact ⟨rfl, s1⟩
theorem print_of : ∀ (n : Nat) (l : List Pt), SizeOf.sizeOf l < n → wtL l < 1000000 → ∀ (w : World) (F : Nat → Prop) (v : Value), SlAt w F l v → Calls Tryz.prog fn_word_Print #[v] w (fun e w' => e = .returned (.string (S (prL l))) ∧ Still w w') := by
  intro n
  induction n with
  | zero => intro l h; omega
  | succ n ih =>
    intro l hn hl w F v hv
    obtain ⟨p, c, rfl⟩ := hv.form
    have hwl := wtL_len l
    have hpl := prL_len l
    refine word_Print_calls _ _ _ _ _ ?_
    refine allocK fun w1 r1 s1 z1 => ?_
    have hb0 : Bd w1 w.heap.size (w.heap.size + 1) [] := ⟨_, _, rfl, BldAt.fresh r1 rfl rfl⟩
    refine ⟨fun x w2 => ∃ k : Nat, x = (k : Int) ∧ k ≤ l.length ∧ Bd w2 w.heap.size (w.heap.size + 1) (prL (l.take k)) ∧ Still w w2 ∧ w1.heap.size ≤ w2.heap.size, fun x _ => l.length - x.toNat, ⟨0, rfl, Nat.zero_le _, hb0, s1, Nat.le_refl _⟩, ?_⟩
    rintro _ _ w2 ⟨k, rfl, hk, hb, hs2, hz2⟩
    refine bsel_of (fun hx => ?_) (fun hx => ?_)
    rotate_left
    · have hx : k = l.length := by have := of_decide_eq_false hx; omega
      rw [hx, List.take_length] at hb
      refine (hb.told (by omega) hs2 (by omega)).mono ?_
      rintro _ w3 ⟨rfl, s3⟩
      exact .inl ⟨_, rfl, rfl, s3⟩
    have hx : k < l.length := by have := of_decide_eq_true hx; omega
    obtain ⟨b, wp, wc, rfl, c0, c1, c2, c3, c4, c5, hsw⟩ := (hv.still hs2).fields hx
    have hwk := wt_take hx
    have hpk := prL_len (l.take k)
    have hxw := l[k].wt_eq
    have hcl := core_len l[k]
    rw [Int.toNat_natCast]
    refine ⟨fun w13 => Bd w13 w.heap.size (w.heap.size + 1) (prL (l.take (k + 1))) ∧ Still w w13 ∧ w1.heap.size ≤ w13.heap.size, ⟨by omega, by omega, _, _, _, _, _, _, _, _, c0, c1, c2, c3, c4, c5, boxK rfl one6 fun w4 r4 s4 z4 => ?_⟩, ?_⟩
    rotate_left
    · rintro _ w13 ⟨h1, h2, h3⟩
      rw [show IntKind.i64.wrap ((k : Int) + 1) = ((k + 1 : Nat) : Int) by rw [wrap_i64 (by omega) (by omega)]; omega]
      exact ⟨⟨k + 1, rfl, hx, h1, h2, h3⟩, by dsimp only; omega⟩
    have hb4 := hb.still s4
    have hs4 := hs2.trans s4
    have hz4 : w1.heap.size ≤ w4.heap.size := by omega
    refine ⟨fun b w5 => b = (decide (l[k].k = 0) && l[k].q) ∧ w5 = w4, ⟨_, r4.lget rfl, bsel_of (fun h => ⟨_, r4.lget rfl, ?_, rfl⟩) (fun h => ⟨?_, rfl⟩)⟩, ?_⟩
    · rw [h, Bool.true_and]
    · rw [h, Bool.false_and]
    rintro b' _ w5 ⟨hb', rfl⟩
    -- what is told is put behind
    have put : ∀ (s : Txt) (w6 : World), Still w5 w6 → l[k].pr = s → Calls Tryz.prog fn_strings_Builder_WriteString #[.pointer (some (Addr.mk w.heap.size 0 none)), .string (S s)] w6 (fun ed w7 => (∃ r1 : Int, ∃ r2 : Value, r2.oneCell' = true ∧ ed = .returned (.tuple #[.int .i64 r1, r2]) ∧ Bd w7 w.heap.size (w.heap.size + 1) (prL (l.take (k + 1))) ∧ Still w w7 ∧ w1.heap.size ≤ w7.heap.size) ∨ (∃ ch, ed = .panicked ch ∧ (Ending.panicked ch = .returned (.string (S (prL l))) ∧ Still w w7))) := by
      intro s w6 s6 hs
      have hps := l[k].pr_len
      refine ((hb4.still s6).write s (by have := s6.size; omega) (by rw [← hs]; omega) (hs4.trans s6) (Nat.le_refl _) (by omega)).mono ?_
      rintro _ w7 ⟨rfl, h7, s7, z7⟩
      refine .inl ⟨_, _, rfl, rfl, by rw [prL_take hx, hs]; exact h7, s7, by have := s6.size; omega⟩
    refine bsel_of (fun h => ?_) (fun h => ⟨_, r4.lget rfl, bsel_of (fun h3 => ?_) (fun h3 => ⟨_, r4.lget rfl, bsel_of (fun h5 => ?_) (fun h5 => ?_)⟩)⟩)
    · rw [h] at hb'
      have hk0 : l[k].k = 0 ∧ l[k].q = true := by simpa using hb'.symm
      refine ⟨_, r4.lget rfl, (replaceAll_spec 39 [39, 92, 39, 39] l[k].t (by omega) (by decide) (by decide) (by decide)).mono ?_⟩
      rintro _ w6 ⟨rfl, s6⟩
      have hsl := single_len l[k].t
      rw [single_repl] at hsl
      simp only [List.length_append, List.length_cons, List.length_nil] at hsl
      exact .inl ⟨_, rfl, by simp only [List.length_cons, List.length_nil]; omega, by simp only [List.length_append, List.length_cons, List.length_nil]; omega, put _ w6 s6 (by rw [pr_core, if_pos hk0.1, if_pos hk0.2]; rfl)⟩
    · have hk0 : l[k].k = 0 := of_decide_eq_true h3
      have hq0 : l[k].q = false := by
        rw [h, hk0] at hb'
        simpa using hb'.symm
      exact ⟨_, r4.lget rfl, put _ _ (Still.refl _) (by rw [pr_core, if_pos hk0, if_neg (by rw [hq0]; decide)])⟩
    · have hk0 : ¬ l[k].k = 0 := of_decide_eq_false h3
      refine ⟨_, _, _, _, _, _, _, _, r4.lget rfl, r4.lget rfl, r4.lget rfl, r4.lget rfl, r4.lget rfl, r4.lget rfl, (plain_of (x := l[k]) (hsw.still s4) (by omega) fun wq hq => ih _ (by have := word_of hx; omega) (by have := wt_word hx; omega) wq F _ ((hsw.still s4).still hq)).mono ?_⟩
      rintro _ w6 ⟨rfl, s6⟩
      exact .inl ⟨_, rfl, by simp only [List.length_cons, List.length_nil]; omega, by simp only [List.length_append, List.length_cons, List.length_nil]; omega, put _ w6 s6 (by rw [pr_core, if_neg hk0, wrapQ, if_pos h5]; rfl)⟩
    · have hk0 : ¬ l[k].k = 0 := of_decide_eq_false h3
      refine ⟨_, _, _, _, _, _, _, _, r4.lget rfl, r4.lget rfl, r4.lget rfl, r4.lget rfl, r4.lget rfl, r4.lget rfl, (plain_of (x := l[k]) (hsw.still s4) (by omega) fun wq hq => ih _ (by have := word_of hx; omega) (by have := wt_word hx; omega) wq F _ ((hsw.still s4).still hq)).mono ?_⟩
      rintro _ w6 ⟨rfl, s6⟩
      exact .inl ⟨_, rfl, put _ w6 s6 (by rw [pr_core, if_neg hk0, wrapQ, if_neg (by rw [h5]; decide)])⟩
theorem Print_spec {F : Nat → Prop} {l : List Pt} {v : Value} (hv : SlAt w F l v) (hl : wtL l < 1000000) : Calls Tryz.prog fn_word_Print #[v] w (fun e w' => e = .returned (.string (S (prL l))) ∧ Still w w') := print_of _ l (Nat.lt_succ_self _) hl w F v hv
theorem ref_single_spec (s : Txt) (hs : s.length < 1000000) : Calls Tryz.prog fn_ref08_single #[.string (S s)] w (fun e w' => e = .returned (.string (S (single s))) ∧ w' = w) := by
  refine ref08_single_calls _ _ _ ?_
  have fl : ∀ k, ((s.take k).flatMap fun b => if b = 39 then [39, 92, 39, 39] else [b]).length ≤ 4 * k := by
    intro k
    have h := single_len (s.take k)
    simp only [single, List.length_cons, List.length_append, List.length_nil, List.length_take] at h
    omega
  refine ⟨fun out i w1 => ∃ k : Nat, i = (k : Int) ∧ k ≤ s.length ∧ out = 39 :: (s.take k).flatMap (fun b => if b = 39 then [39, 92, 39, 39] else [b]) ∧ w1 = w, fun _ i _ => s.length - i.toNat, ⟨0, rfl, Nat.zero_le _, rfl, rfl⟩, ?_⟩
  rintro _ _ _ w1 ⟨k, rfl, hk, rfl, rfl⟩
  have hfk := fl k
  refine bsel_of (fun hx => ?_) (fun hx => ?_)
  rotate_left
  · have hx : k = s.length := by have := of_decide_eq_false hx; omega
    subst hx
    refine ⟨by simp only [List.length_cons, List.length_nil]; omega, ?_, rfl⟩
    rw [List.take_length]
    rfl
  have hx : k < s.length := by have := of_decide_eq_true hx; omega
  have e1 : IntKind.i64.wrap ((k : Int) + 1) = ((k + 1 : Nat) : Int) := by rw [wrap_i64 (by omega) (by omega)]; omega
  rw [Int.toNat_natCast, e1, Int.toNat_natCast]
  have step : (s.take (k + 1)).flatMap (fun b => if b = 39 then [39, 92, 39, 39] else [b]) = (s.take k).flatMap (fun b => if b = 39 then [39, 92, 39, 39] else [b]) ++ (if s[k] = 39 then [39, 92, 39, 39] else [s[k]]) := by
    rw [take_one hx, List.flatMap_append]
    simp
  refine ⟨by omega, s[k], getD_some hx, bsel_of (fun h => ?_) (fun h => ?_)⟩
  · have h : s[k] = 39 := byte_eq.1 (of_decide_eq_true h)
    refine ⟨by simp only [List.length_cons, List.length_nil]; omega, ⟨k + 1, rfl, hx, ?_, rfl⟩, by dsimp only; omega⟩
    rw [step, if_pos h]
    rfl
  · have h : ¬ s[k] = 39 := fun e => of_decide_eq_false h (byte_eq.2 e)
    rw [drop_take1 hx]
    refine ⟨by omega, by omega, by omega, by simp only [List.length_cons, List.length_nil]; omega, ⟨k + 1, rfl, hx, ?_, rfl⟩, by dsimp only; omega⟩
    rw [step, if_neg h]
    rfl
theorem ref_print_of : ∀ (n : Nat) (l : List Pt), SizeOf.sizeOf l < n → wtL l < 1000000 → ∀ (w : World) (F : Nat → Prop) (v : Value), SlAt w F l v → Calls Tryz.prog fn_ref08_Print #[v] w (fun e w' => e = .returned (.string (S (prL l))) ∧ Still w w') := by
  intro n
  induction n with
  | zero => intro l h; omega
  | succ n ih =>
    intro l hn hl w F v hv
    obtain ⟨p, c, rfl⟩ := hv.form
    have hwl := wtL_len l
    have hpl := prL_len l
    refine ref08_Print_calls _ _ _ _ _ ?_
    refine ⟨fun out x w2 => ∃ k : Nat, x = (k : Int) ∧ k ≤ l.length ∧ out = prL (l.take k) ∧ Still w w2, fun _ x _ => l.length - x.toNat, ⟨0, rfl, Nat.zero_le _, rfl, Still.refl _⟩, ?_⟩
    rintro _ _ _ w2 ⟨k, rfl, hk, rfl, hs2⟩
    refine bsel_of (fun hx => ?_) (fun hx => ?_)
    rotate_left
    · have hx : k = l.length := by have := of_decide_eq_false hx; omega
      rw [hx, List.take_length]
      exact ⟨rfl, hs2⟩
    have hx : k < l.length := by have := of_decide_eq_true hx; omega
    obtain ⟨b, wp, wc, rfl, c0, c1, c2, c3, c4, c5, hsw⟩ := (hv.still hs2).fields hx
    have hwk := wt_take hx
    have hpk := prL_len (l.take k)
    have hxw := l[k].wt_eq
    have hcl := core_len l[k]
    have hps := l[k].pr_len
    have hpw := prL_len l[k].w
    rw [Int.toNat_natCast]
    refine ⟨fun out w13 => out = prL (l.take (k + 1)) ∧ Still w w13, ⟨by omega, by omega, _, _, _, _, _, _, _, _, c0, c1, c2, c3, c4, c5, boxK rfl one6 fun w4 r4 s4 z4 => ?_⟩, ?_⟩
    rotate_left
    · rintro _ _ w13 ⟨rfl, h2⟩
      rw [show IntKind.i64.wrap ((k : Int) + 1) = ((k + 1 : Nat) : Int) by rw [wrap_i64 (by omega) (by omega)]; omega]
      exact ⟨⟨k + 1, rfl, hx, rfl, h2⟩, by dsimp only; omega⟩
    have hs4 := hs2.trans s4
    refine ⟨fun out s w6 => out = prL (l.take k) ∧ s = core l[k] ∧ l[k].k ≠ 0 ∧ Still w4 w6, ⟨_, r4.lget rfl, bsel_of (fun h => ⟨_, r4.lget rfl, _, r4.lget rfl, bsel_of (fun h1 => ?_) (fun h1 => ?_)⟩) (fun h => ?_)⟩, ?_⟩
    · refine (ref_single_spec l[k].t (by omega)).mono ?_
      rintro _ w5 ⟨rfl, rfl⟩
      have hsl := single_len l[k].t
      refine .inl ⟨_, rfl, by omega, ?_, hs4⟩
      rw [prL_take hx, pr_core, if_pos (of_decide_eq_true h), if_pos h1]
    · refine ⟨by omega, ?_, hs4⟩
      rw [prL_take hx, pr_core, if_pos (of_decide_eq_true h), if_neg (by rw [h1]; decide)]
    · have h : ¬ l[k].k = 0 := of_decide_eq_false h
      refine bsel_of (fun h2 => ?_) (fun h2 => bsel_of (fun h3 => ?_) (fun h3 => bsel_of (fun h4 => ?_) (fun h4 => ?_)))
      · refine ⟨_, r4.lget rfl, by simp only [List.length_cons, List.length_nil]; omega, by simp only [List.length_append, List.length_cons, List.length_nil]; omega, rfl, ?_, h, Still.refl _⟩
        rw [core, if_pos (of_decide_eq_true h2)]
      · refine ⟨_, r4.lget rfl, by simp only [List.length_cons, List.length_nil]; omega, by simp only [List.length_append, List.length_cons, List.length_nil]; omega, rfl, ?_, h, Still.refl _⟩
        rw [core, if_neg (of_decide_eq_false h2), if_pos (of_decide_eq_true h3)]
      · have rd : ∀ wq : World, Still w4 wq → Row wq w2.heap.size 63 ⟨pcell l[k] (.slice wp l[k].w.length wc)⟩ := fun wq hq => r4.still hq
        refine ⟨fun wq => Still w4 wq, drew_still w4, _, fun wq hq => (rd wq hq).lget rfl, by simp only [List.length_cons, List.length_nil]; omega, _, fun wq hq => (rd wq hq).lget rfl, by simp only [List.length_append, List.length_cons, List.length_nil]; omega, _, _, _, fun wq hq => (rd wq hq).lget rfl, ?_⟩
        refine (ih _ (by have := word_of hx; omega) (by have := wt_word hx; omega) w4.drew F _ ((hsw.still s4).still (drew_still w4))).mono ?_
        rintro _ w5 ⟨rfl, s5⟩
        have s45 := (drew_still w4).trans s5
        refine .inl ⟨_, rfl, s45, by simp only [List.length_append, List.length_cons, List.length_nil]; omega, by simp only [List.length_append, List.length_cons, List.length_nil]; omega, _, (rd _ s45).lget rfl, bsel_of (fun h5 => ?_) (fun h5 => ?_)⟩
        · refine ⟨_, (rd _ s45).lget rfl, by simp only [List.length_cons, List.length_nil]; omega, by simp only [List.length_append, List.length_cons, List.length_nil]; omega, rfl, ?_, h, s45⟩
          rw [core, if_neg (of_decide_eq_false h2), if_neg (of_decide_eq_false h3), if_pos (of_decide_eq_true h4), if_pos (of_decide_eq_true h5)]
        · refine ⟨rfl, ?_, h, s45⟩
          rw [core, if_neg (of_decide_eq_false h2), if_neg (of_decide_eq_false h3), if_pos (of_decide_eq_true h4), if_neg (of_decide_eq_false h5)]
      · refine ⟨rfl, ?_, h, Still.refl _⟩
        rw [core, if_neg (of_decide_eq_false h2), if_neg (of_decide_eq_false h3), if_neg (of_decide_eq_false h4)]
    · rintro _ _ _ w6 ⟨rfl, rfl, h, s6⟩
      refine ⟨_, (r4.still s6).lget rfl, bsel_of (fun h1 => ?_) (fun h1 => ?_)⟩
      · refine ⟨by simp only [List.length_cons, List.length_nil]; omega, by simp only [List.length_append, List.length_cons, List.length_nil]; omega, by simp only [List.length_append, List.length_cons, List.length_nil]; omega, ?_, hs4.trans s6⟩
        rw [prL_take hx, pr_core, if_neg h, wrapQ, if_pos h1]
        rfl
      · refine ⟨by omega, ?_, hs4.trans s6⟩
        rw [prL_take hx, pr_core, if_neg h, wrapQ, if_neg (by rw [h1]; decide)]
theorem ref_Print_spec {F : Nat → Prop} {l : List Pt} {v : Value} (hv : SlAt w F l v) (hl : wtL l < 1000000) : Calls Tryz.prog fn_ref08_Print #[v] w (fun e w' => e = .returned (.string (S (prL l))) ∧ Still w w') := ref_print_of _ l (Nat.lt_succ_self _) hl w F v hv
def Ss (w : World) (B : Nat) (l : List Txt) (v : Value) : Prop := ∃ p c, v = .slice p l.length c ∧ Owns w B 9 1 v l.length (strs l)
theorem Ss.still {w' : World} {B : Nat} {l : List Txt} {v : Value} (h : Ss w B l v) (hm : Still w w') : Ss w' B l v := by
  obtain ⟨p, c, rfl, ho⟩ := h
  exact ⟨p, c, rfl, ho.still hm⟩
theorem Ss.form {B : Nat} {l : List Txt} {v : Value} (h : Ss w B l v) : ∃ p c, v = .slice p l.length c := by
  obtain ⟨p, c, he, _⟩ := h
  exact ⟨p, c, he⟩
theorem join_joinT (sep : Txt) (l : List Txt) : Lib.join l sep = joinT sep l := by
  cases l with
  | nil => rfl
  | cons x r =>
    rw [Lib.join_cons]
    simp only [Lib.joinTail, joinT, List.flatMap_def]
theorem sjoin_spec {B : Nat} {l : List Txt} {p : Option Addr} {c : Nat} (h : Ss w B l (.slice p l.length c)) (sep : Txt) (hl : l.length ≤ 1000000000) (hj : (joinT sep l).length ≤ 140737488355328) :
    Calls Tryz.prog fn_strings_Join #[.slice p l.length c, .string (S sep)] w (fun e w' => e = .returned (.string (S (joinT sep l))) ∧ Still w w') := by
  by_cases h0 : l = []
  · subst h0
    refine (Tryz.strings_Join_none p c (S sep) w).mono ?_
    rintro _ w' ⟨rfl, rfl⟩
    exact ⟨rfl, Still.refl _⟩
  · obtain ⟨p', c', he, ho⟩ := h
    injection he with e1 e2 e3
    subst e1 e3
    obtain ⟨g, cap, he, _, hg, hcap, hcell⟩ := ho.ownAddr (List.length_pos_iff.2 h0)
    injection he with e1 e2 e3
    subst e1 e3
    have hm : (l.map S).map (·.data.toList) = l := by
      rw [List.map_map]
      exact List.map_id' l
    have hJ := Tryz.strings_Join g 0 c (l.map S) (S sep) w (fun j x hx => by
      rw [List.getElem?_map] at hx
      cases hj : l[j]? with
      | none => rw [hj] at hx; cases hx
      | some y =>
        rw [hj] at hx
        obtain rfl := Option.some.inj hx
        rw [Nat.zero_add]
        exact hcell j _ (by simp [strs, hj])) hg (by rw [List.length_map]; omega) (by rw [List.length_map]; exact hcap) (by rw [hm]; show (Lib.join l sep).length ≤ _; rw [join_joinT]; exact hj)
    rw [List.length_map, hm] at hJ
    refine hJ.mono ?_
    rintro e w' ⟨rfl, hb⟩
    refine ⟨?_, (Still.refl w).trans' hb (Nat.le_refl _)⟩
    show Ending.returned (.string ⟨⟨Lib.join l sep⟩⟩) = _
    rw [join_joinT]
theorem ujoin_spec {B : Nat} {l : List Txt} {p : Option Addr} {c : Nat} (h : Ss w B l (.slice p l.length c)) (hl : l.length ≤ 1000000000) (hj : (joinT [32] l).length ≤ 140737488355328) :
    Calls Tryz.prog fn_unparse_join #[.slice p l.length c] w (fun e w' => e = .returned (.string (S (joinT [32] l))) ∧ Still w w') := by
  refine unparse_join_calls _ _ _ _ _ ?_
  refine (sjoin_spec h [32] hl hj).mono ?_
  rintro _ w1 ⟨rfl, s1⟩
  exact .inl ⟨_, rfl, rfl, s1⟩
theorem repL_one (z : Value) : ∀ n, repL [z] n = List.replicate n z
  | 0 => rfl
  | n + 1 => by
    rw [List.replicate_succ]
    show [z] ++ repL [z] n = _
    rw [repL_one z n]
    rfl
def upd (l : List Txt) (n k : Nat) : List Txt := l.take k ++ List.replicate (n - k) []
theorem upd_zero (l : List Txt) (n : Nat) : upd l n 0 = List.replicate n [] := by simp [upd]
theorem upd_all (l : List Txt) : upd l l.length l.length = l := by simp [upd]
theorem upd_set {l : List Txt} {k : Nat} (h : k < l.length) : (strs (upd l l.length k)).set k (.string (S l[k])) = strs (upd l l.length (k + 1)) := by
  unfold strs upd
  rw [List.map_append, List.map_append, List.set_append_right _ _ (by rw [List.length_map, List.length_take]; omega), List.length_map, List.length_take, Nat.min_eq_left (by omega), Nat.sub_self, show l.length - k = (l.length - (k + 1)) + 1 by omega, List.replicate_succ, List.map_cons, List.set_cons_zero, take_one h, List.map_append, List.append_assoc]
  rfl
theorem upd_len (l : List Txt) {k : Nat} (h : k ≤ l.length) : (strs (upd l l.length k)).length = l.length := by
  simp [strs, upd]
  omega
theorem Ss.made {g : Nat} {l : List Txt} {B : Nat} (hr : Row w g 9 ⟨strs l⟩) (hB : B ≤ g) (hl : l.length ≤ 1000000000) : Ss w B l (.slice (some ⟨g, 0, none⟩) l.length l.length) := by
  have hs : (strs l).length = l.length := by simp [strs]
  exact ⟨_, _, rfl, by rw [hs, Nat.mul_one], .inr ⟨g, l.length, ⟨strs l⟩, rfl, hB, hr, Nat.le_refl _, Nat.le_trans hl (by decide), by show (strs l).length = _; rw [hs, Nat.mul_one], by rw [Nat.mul_one, ← hs]; exact List.take_length⟩⟩
def EachI (w : World) (l : List Txt) (x : Int) (w2 : World) : Prop := ∃ k : Nat, x = (k : Int) ∧ k ≤ l.length ∧ Row w2 w.heap.size 9 ⟨strs (upd l l.length k)⟩ ∧ Still w w2
theorem each_start {l : List Txt} {n : Nat} (hn : l.length = n) {K : World → Prop} (h : ∀ w1, EachI w l 0 w1 → K w1) : letW (w.alloc (.cells (madeCells #[.string (S [])] (Int.toNat (n : Int) * 1)) 9)) K := by
  have e : madeCells #[.string (S [])] (Int.toNat (n : Int) * 1) = ⟨strs (upd l l.length 0)⟩ := by
    rw [Int.toNat_natCast, upd_zero, hn]
    have := madeCells_repL [.string (S [])] n
    rw [show [Value.string (S [])].length = 1 from rfl] at this
    rw [this, repL_one]
    simp [strs]
  rw [e]
  exact allocK fun w1 r1 s1 _ => h w1 ⟨0, rfl, Nat.zero_le _, r1, s1⟩
theorem each_put {l : List Txt} {k : Nat} (hk : k < l.length) {w2 w3 : World} (hr : Row w2 w.heap.size 9 ⟨strs (upd l l.length k)⟩) (hs : Still w w2) (s3 : Still w2 w3) {K : World → Prop} (h : ∀ w', EachI w l ((k + 1 : Nat) : Int) w' → K w') :
    stCells ((Addr.mk w.heap.size 0 none).add (Int.toNat (k : Int) * 1)) K 0 [.string (S l[k])] w3 := by
  rw [add_row, Int.toNat_natCast, Nat.mul_one, Nat.zero_add]
  refine stK (hr.still s3) (by rw [upd_len _ (by omega)]; simp only [List.length_cons, List.length_nil]; omega) (by simp [Value.oneCell']) fun w' r' m' z' => h w' ⟨k + 1, rfl, hk, ?_, Mod.trans (hs.trans s3) m' (fun _ h => h) (fun i hi e => by omega)⟩
  have e : ovw (strs (upd l l.length k)) k [.string (S l[k])] = (strs (upd l l.length k)).set k (.string (S l[k])) := rfl
  rw [e, upd_set hk] at r'
  exact r'
theorem each_end {w' : World} {l : List Txt} {x : Int} {n : Nat} (hn : l.length = n) (hl : l.length ≤ 1000000000) (hx : ¬ (x < (n : Int))) (h : EachI w l x w') : ∃ p c, Value.slice (some (Addr.mk w.heap.size 0 none)) (Int.toNat (n : Int)) (Int.toNat (n : Int)) = .slice p l.length c ∧ Ss w' w.heap.size l (.slice p l.length c) ∧ Still w w' := by
  obtain ⟨k, rfl, hk, hr, hs⟩ := h
  have : k = l.length := by omega
  subst this
  rw [upd_all] at hr
  rw [Int.toNat_natCast, ← hn]
  exact ⟨_, _, rfl, Ss.made hr (Nat.le_refl _) hl, hs⟩
theorem callee_of {fn : FuncId} {K : FuncId → List Value → List Value → Prop} (h : K fn [] []) : calleeK (.func (.func fn) #[] #[]) K := h
def Told (w : World) (l : List Txt) (e : Ending) (w' : World) : Prop := ∃ p c, e = .returned (.slice p l.length c) ∧ Ss w' w.heap.size l (.slice p l.length c) ∧ Still w w'
set_option maxRecDepth 10000 in
theorem eachN_of {F : Nat → Prop} {l : List Nd} {p : Option Addr} {n c : Nat} {fn : FuncId} (hv : ndE.At w F l (.slice p n c)) (hl : l.length ≤ 1000000000) (hc : callable Tryz.prog fn = true) (tx : Nd → Txt)
    (ih : ∀ x ∈ l, ∀ (w1 : World) (cs : List Value), Still w w1 → NdE w1 F x cs → Calls Tryz.prog fn #[.agg ⟨cs⟩] w1 (fun e w' => e = .returned (.string (S (tx x))) ∧ Still w1 w')) :
    Calls Tryz.prog 44 #[.slice p n c, .func (.func fn) #[] #[]] w (Told w (l.map tx)) := by
  obtain ⟨rfl, _⟩ := hv.len
  have hm : (l.map tx).length = l.length := List.length_map ..
  refine unparse_each_api_Node_calls _ _ _ _ _ _ ?_
  refine ⟨by omega, by omega, by omega, by omega, each_start hm fun w1 h1 => ⟨EachI w (l.map tx), fun x _ => l.length - x.toNat, h1, ?_⟩⟩
  rintro x _ w2 h2
  refine bsel_of (fun hx => ?_) (fun hx => ?_)
  rotate_left
  · obtain ⟨p', c', he, hS, hs⟩ := each_end hm (by omega) (of_decide_eq_false hx) h2
    exact ⟨p', c', congrArg Ending.returned he, hS, hs⟩
  obtain ⟨k, rfl, hk, hr, hs⟩ := h2
  have hk : k < l.length := by have := of_decide_eq_true hx; omega
  obtain ⟨b, cs, rfl, _, hE, hcell⟩ := (hv.still hs).get (List.getElem?_eq_getElem hk)
  have hE : NdE w2 F l[k] cs := hE
  obtain ⟨pw, cw, pa, ca, pr, cr, po, co, pk, ck, rfl, _⟩ := hE.outs
  have hcell : CellsAt w2 (b.add (k * 8)) _ := hcell
  have e1 : IntKind.i64.wrap ((k : Int) + 1) = ((k + 1 : Nat) : Int) := by rw [wrap_i64 (by omega) (by omega)]; omega
  rw [e1]
  have et : Int.toNat (k : Int) = k := Int.toNat_natCast k
  have hput := fun w5 (s5 : Still w2 w5) => each_put (w := w) (l := l.map tx) (k := k) (by omega) hr hs s5 (K := fun w' => EachI w (l.map tx) ((k + 1 : Nat) : Int) w' ∧ l.length - ((k + 1 : Nat) : Int).toNat < l.length - ((k : Int)).toNat) fun w' h' => ⟨h', by rw [Int.toNat_natCast, Int.toNat_natCast]; omega⟩
  rw [et] at hput ⊢
  refine ⟨by omega, by omega, _, _, _, _, _, _, _, _, _, _, _, _, _, _, _, _, _, _, hcell.zero, hcell 1 _ rfl, hcell 2 _ rfl, hcell 3 _ rfl, hcell 4 _ rfl, hcell 5 _ rfl, hcell 6 _ rfl, hcell 7 _ rfl, boxK rfl (by simp [Value.oneCell']) fun w4 r4 s4 z4 => ?_⟩
  refine ⟨_, _, _, _, _, _, _, _, _, _, _, _, _, _, _, _, _, _, r4.lget rfl, r4.lget rfl, r4.lget rfl, r4.lget rfl, r4.lget rfl, r4.lget rfl, r4.lget rfl, r4.lget rfl, callee_of (bsel_of (fun _ => ?_) (fun h => by rw [hc] at h; cases h))⟩
  refine (ih l[k] (List.getElem_mem hk) w4 _ (hs.trans s4) (hE.still s4)).mono ?_
  rintro _ w5 ⟨rfl, s5⟩
  have ek : (l.map tx)[k]'(by omega) = tx l[k] := List.getElem_map ..
  have hput := hput w5 (s4.trans s5)
  rw [ek] at hput
  exact .inl ⟨_, rfl, by omega, by omega, hput⟩
set_option maxRecDepth 10000 in
theorem eachR_of {F : Nat → Prop} {l : List (Txt × List Pt)} {p : Option Addr} {n c : Nat} {fn : FuncId} (hv : nsE.At w F l (.slice p n c)) (hl : l.length ≤ 1000000000) (hc : callable Tryz.prog fn = true) (tx : Txt × List Pt → Txt)
    (ih : ∀ x ∈ l, ∀ (w1 : World) (v : Value), Still w w1 → SlAt w1 F x.2 v → Calls Tryz.prog fn #[.agg #[.string (S x.1), v]] w1 (fun e w' => e = .returned (.string (S (tx x))) ∧ Still w1 w')) :
    Calls Tryz.prog 27 #[.slice p n c, .func (.func fn) #[] #[]] w (Told w (l.map tx)) := by
  obtain ⟨rfl, _⟩ := hv.len
  have hm : (l.map tx).length = l.length := List.length_map ..
  refine unparse_each_api_Redir_calls _ _ _ _ _ _ ?_
  refine ⟨by omega, by omega, by omega, by omega, each_start hm fun w1 h1 => ⟨EachI w (l.map tx), fun x _ => l.length - x.toNat, h1, ?_⟩⟩
  rintro x _ w2 h2
  refine bsel_of (fun hx => ?_) (fun hx => ?_)
  rotate_left
  · obtain ⟨p', c', he, hS, hs⟩ := each_end hm (by omega) (of_decide_eq_false hx) h2
    exact ⟨p', c', congrArg Ending.returned he, hS, hs⟩
  obtain ⟨k, rfl, hk, hr, hs⟩ := h2
  have hk : k < l.length := by have := of_decide_eq_true hx; omega
  obtain ⟨b, cs, rfl, _, ⟨v, rfl, hE⟩, hcell⟩ := (hv.still hs).get (List.getElem?_eq_getElem hk)
  obtain ⟨q, d, rfl⟩ := hE.form
  have hcell : CellsAt w2 (b.add (k * 2)) _ := hcell
  have e1 : IntKind.i64.wrap ((k : Int) + 1) = ((k + 1 : Nat) : Int) := by rw [wrap_i64 (by omega) (by omega)]; omega
  rw [e1]
  have et : Int.toNat (k : Int) = k := Int.toNat_natCast k
  have hput := fun w5 (s5 : Still w2 w5) => each_put (w := w) (l := l.map tx) (k := k) (by omega) hr hs s5 (K := fun w' => EachI w (l.map tx) ((k + 1 : Nat) : Int) w' ∧ l.length - ((k + 1 : Nat) : Int).toNat < l.length - ((k : Int)).toNat) fun w' h' => ⟨h', by rw [Int.toNat_natCast, Int.toNat_natCast]; omega⟩
  rw [et] at hput ⊢
  refine ⟨by omega, by omega, _, _, _, _, hcell.zero, hcell 1 _ rfl, boxK rfl (by simp [Value.oneCell']) fun w4 r4 s4 z4 => ?_⟩
  refine ⟨_, _, _, _, r4.lget rfl, r4.lget rfl, callee_of (bsel_of (fun _ => ?_) (fun h => by rw [hc] at h; cases h))⟩
  refine (ih l[k] (List.getElem_mem hk) w4 _ (hs.trans s4) (hE.still s4)).mono ?_
  rintro _ w5 ⟨rfl, s5⟩
  have ek : (l.map tx)[k]'(by omega) = tx l[k] := List.getElem_map ..
  have hput := hput w5 (s4.trans s5)
  rw [ek] at hput
  exact .inl ⟨_, rfl, by omega, by omega, hput⟩
set_option maxRecDepth 10000 in
theorem eachA_of {F : Nat → Prop} {l : List (Txt × List Pt)} {p : Option Addr} {n c : Nat} {fn : FuncId} (hv : nsE.At w F l (.slice p n c)) (hl : l.length ≤ 1000000000) (hc : callable Tryz.prog fn = true) (tx : Txt × List Pt → Txt)
    (ih : ∀ x ∈ l, ∀ (w1 : World) (v : Value), Still w w1 → SlAt w1 F x.2 v → Calls Tryz.prog fn #[.agg #[.string (S x.1), v]] w1 (fun e w' => e = .returned (.string (S (tx x))) ∧ Still w1 w')) :
    Calls Tryz.prog 39 #[.slice p n c, .func (.func fn) #[] #[]] w (Told w (l.map tx)) := by
  obtain ⟨rfl, _⟩ := hv.len
  have hm : (l.map tx).length = l.length := List.length_map ..
  refine unparse_each_api_Assign_calls _ _ _ _ _ _ ?_
  refine ⟨by omega, by omega, by omega, by omega, each_start hm fun w1 h1 => ⟨EachI w (l.map tx), fun x _ => l.length - x.toNat, h1, ?_⟩⟩
  rintro x _ w2 h2
  refine bsel_of (fun hx => ?_) (fun hx => ?_)
  rotate_left
  · obtain ⟨p', c', he, hS, hs⟩ := each_end hm (by omega) (of_decide_eq_false hx) h2
    exact ⟨p', c', congrArg Ending.returned he, hS, hs⟩
  obtain ⟨k, rfl, hk, hr, hs⟩ := h2
  have hk : k < l.length := by have := of_decide_eq_true hx; omega
  obtain ⟨b, cs, rfl, _, ⟨v, rfl, hE⟩, hcell⟩ := (hv.still hs).get (List.getElem?_eq_getElem hk)
  obtain ⟨q, d, rfl⟩ := hE.form
  have hcell : CellsAt w2 (b.add (k * 2)) _ := hcell
  have e1 : IntKind.i64.wrap ((k : Int) + 1) = ((k + 1 : Nat) : Int) := by rw [wrap_i64 (by omega) (by omega)]; omega
  rw [e1]
  have et : Int.toNat (k : Int) = k := Int.toNat_natCast k
  have hput := fun w5 (s5 : Still w2 w5) => each_put (w := w) (l := l.map tx) (k := k) (by omega) hr hs s5 (K := fun w' => EachI w (l.map tx) ((k + 1 : Nat) : Int) w' ∧ l.length - ((k + 1 : Nat) : Int).toNat < l.length - ((k : Int)).toNat) fun w' h' => ⟨h', by rw [Int.toNat_natCast, Int.toNat_natCast]; omega⟩
  rw [et] at hput ⊢
  refine ⟨by omega, by omega, _, _, _, _, hcell.zero, hcell 1 _ rfl, boxK rfl (by simp [Value.oneCell']) fun w4 r4 s4 z4 => ?_⟩
  refine ⟨_, _, _, _, r4.lget rfl, r4.lget rfl, callee_of (bsel_of (fun _ => ?_) (fun h => by rw [hc] at h; cases h))⟩
  refine (ih l[k] (List.getElem_mem hk) w4 _ (hs.trans s4) (hE.still s4)).mono ?_
  rintro _ w5 ⟨rfl, s5⟩
  have ek : (l.map tx)[k]'(by omega) = tx l[k] := List.getElem_map ..
  have hput := hput w5 (s4.trans s5)
  rw [ek] at hput
  exact .inl ⟨_, rfl, by omega, by omega, hput⟩
set_option maxRecDepth 10000 in
theorem eachW_of {F : Nat → Prop} {l : List (List Pt)} {p : Option Addr} {n c : Nat} {fn : FuncId} (hv : wsE.At w F l (.slice p n c)) (hl : l.length ≤ 1000000000) (hc : callable Tryz.prog fn = true) (tx : List Pt → Txt)
    (ih : ∀ x ∈ l, ∀ (w1 : World) (v : Value), Still w w1 → SlAt w1 F x v → Calls Tryz.prog fn #[v] w1 (fun e w' => e = .returned (.string (S (tx x))) ∧ Still w1 w')) :
    Calls Tryz.prog 41 #[.slice p n c, .func (.func fn) #[] #[]] w (Told w (l.map tx)) := by
  obtain ⟨rfl, _⟩ := hv.len
  have hm : (l.map tx).length = l.length := List.length_map ..
  refine unparse_each_api_Part_calls _ _ _ _ _ _ ?_
  refine ⟨by omega, by omega, by omega, by omega, each_start hm fun w1 h1 => ⟨EachI w (l.map tx), fun x _ => l.length - x.toNat, h1, ?_⟩⟩
  rintro x _ w2 h2
  refine bsel_of (fun hx => ?_) (fun hx => ?_)
  rotate_left
  · obtain ⟨p', c', he, hS, hs⟩ := each_end hm (by omega) (of_decide_eq_false hx) h2
    exact ⟨p', c', congrArg Ending.returned he, hS, hs⟩
  obtain ⟨k, rfl, hk, hr, hs⟩ := h2
  have hk : k < l.length := by have := of_decide_eq_true hx; omega
  obtain ⟨b, cs, rfl, _, ⟨v, rfl, hE⟩, hcell⟩ := (hv.still hs).get (List.getElem?_eq_getElem hk)
  obtain ⟨q, d, rfl⟩ := hE.form
  have hcell : CellsAt w2 (b.add (k * 1)) _ := hcell
  have e1 : IntKind.i64.wrap ((k : Int) + 1) = ((k + 1 : Nat) : Int) := by rw [wrap_i64 (by omega) (by omega)]; omega
  rw [e1]
  have et : Int.toNat (k : Int) = k := Int.toNat_natCast k
  have hput := fun w5 (s5 : Still w2 w5) => each_put (w := w) (l := l.map tx) (k := k) (by omega) hr hs s5 (K := fun w' => EachI w (l.map tx) ((k + 1 : Nat) : Int) w' ∧ l.length - ((k + 1 : Nat) : Int).toNat < l.length - ((k : Int)).toNat) fun w' h' => ⟨h', by rw [Int.toNat_natCast, Int.toNat_natCast]; omega⟩
  rw [et] at hput ⊢
  refine ⟨by omega, by omega, _, _, _, hcell.zero, callee_of (bsel_of (fun _ => ?_) (fun h => by rw [hc] at h; cases h))⟩
  refine (ih l[k] (List.getElem_mem hk) w2 _ hs hE).mono ?_
  rintro _ w5 ⟨rfl, s5⟩
  have ek : (l.map tx)[k]'(by omega) = tx l[k] := List.getElem_map ..
  have hput := hput w5 s5
  rw [ek] at hput
  exact .inl ⟨_, rfl, by omega, by omega, hput⟩
theorem uredir_spec {F : Nat → Prop} {x : Txt × List Pt} {v : Value} (hv : SlAt w F x.2 v) (hl : wtL x.2 < 1000000) (hx : x.1.length ≤ 1000000) : Calls Tryz.prog fn_unparse_redir #[.agg #[.string (S x.1), v]] w (fun e w' => e = .returned (.string (S (prR x))) ∧ Still w w') := by
  obtain ⟨q, d, rfl⟩ := hv.form
  have hp := prL_len x.2
  refine unparse_redir_calls _ _ _ _ _ _ ?_
  refine allocK fun w1 r1 s1 z1 => ?_
  have sD := s1.trans (drew_still w1)
  refine ⟨fun wq => Still w1 wq, drew_still w1, x.1, fun wq hq => (r1.still hq).lget rfl, q, x.2.length, d, fun wq hq => (r1.still hq).lget rfl, (Print_spec (hv.still sD) hl).mono ?_⟩
  rintro _ w2 ⟨rfl, s2⟩
  refine .inl ⟨_, rfl, (drew_still w1).trans s2, allocK fun w3 r3 s3 z3 => ?_⟩
  have hS : Ss w3 w2.heap.size [x.1, prL x.2] (.slice (some ⟨w2.heap.size, 0, none⟩) 2 2) := Ss.made (l := [x.1, prL x.2]) r3 (Nat.le_refl _) (show 2 ≤ 1000000000 by decide)
  have ej : joinT [32] [x.1, prL x.2] = prR x := by simp [joinT, prR]
  have hj := ujoin_spec hS (show 2 ≤ 1000000000 by decide) (by rw [ej]; simp only [prR, List.length_append, List.length_cons, List.length_nil]; omega)
  rw [ej] at hj
  refine hj.mono ?_
  rintro _ w4 ⟨rfl, s4⟩
  exact .inl ⟨_, rfl, rfl, ((sD.trans s2).trans s3).trans s4⟩
theorem uassign_spec {F : Nat → Prop} {x : Txt × List Pt} {v : Value} (hv : SlAt w F x.2 v) (hl : wtL x.2 < 1000000) (hx : x.1.length ≤ 1000000) : Calls Tryz.prog fn_unparse_assign #[.agg #[.string (S x.1), v]] w (fun e w' => e = .returned (.string (S (prA x))) ∧ Still w w') := by
  obtain ⟨q, d, rfl⟩ := hv.form
  have hp := prL_len x.2
  refine unparse_assign_calls _ _ _ _ _ _ ?_
  refine allocK fun w1 r1 s1 z1 => ?_
  have sD := s1.trans (drew_still w1)
  refine ⟨fun wq => Still w1 wq, drew_still w1, x.1, fun wq hq => (r1.still hq).lget rfl, by simp only [List.length_cons, List.length_nil]; omega, q, x.2.length, d, fun wq hq => (r1.still hq).lget rfl, (Print_spec (hv.still sD) hl).mono ?_⟩
  rintro _ w2 ⟨rfl, s2⟩
  exact .inl ⟨_, rfl, (drew_still w1).trans s2, by simp only [List.length_append, List.length_cons, List.length_nil]; omega, rfl, sD.trans s2⟩
def Say (w : World) (t : Txt) (e : Ending) (w' : World) : Prop := e = .returned (.string (S t)) ∧ Still w w'
def KidsOk (fn : FuncId) (x : Nd) : Prop := ∀ y ∈ x.ks, ∀ (w : World) (F : Nat → Prop) (cs : List Value), NdE w F y cs → Calls Tryz.prog fn #[.agg ⟨cs⟩] w (Say w (prN y))
theorem kidT_get {x : Nd} {i : Nat} (h : i < x.ks.length) : kidT (prNs x.ks) i = prN x.ks[i] := by
  rw [kidT, prNs_map, List.getD_eq_getElem?_getD, List.getElem?_map, List.getElem?_eq_getElem h]
  rfl
theorem kidT_none {x : Nd} {i : Nat} (h : x.ks.length ≤ i) : kidT (prNs x.ks) i = [] := by
  rw [kidT, prNs_map, List.getD_eq_getElem?_getD, List.getElem?_map, List.getElem?_eq_none h]
  rfl
theorem kidT_len (x : Nd) (i : Nat) : (kidT (prNs x.ks) i).length ≤ 30 * x.wt := by
  have h1 := getD_len (prNs x.ks) i
  have h2 := prNs_len x.ks
  have h3 := x.wt_eq
  unfold kidT
  omega
theorem ukid_spec {F : Nat → Prop} {x : Nd} {cs : List Value} (hx : NdE w F x cs) (_hl : x.wt ≤ 1000000) (ih : KidsOk fn_unparse_Print x) (i : Nat) : Calls Tryz.prog fn_unparse_kid #[.agg ⟨cs⟩, .int .i64 (i : Int)] w (Say w (kidT (prNs x.ks) i)) := by
  obtain ⟨pw, cw, pa, ca, pr, cr, po, co, pk, ck, rfl, _, _, _, _, hk⟩ := hx.outs
  have hwt := x.wt_eq
  have hnl := wtNs_len x.ks
  refine unparse_kid_calls _ _ _ _ _ _ _ _ _ _ _ _ _ _ _ _ _ _ _ _ _ ?_
  refine allocK fun w1 r1 s1 z1 => ⟨_, _, _, r1.lget rfl, bsel_of (fun h => ?_) (fun h => ?_)⟩
  · rw [kidT_none (by have := of_decide_eq_true h; omega)]
    exact ⟨rfl, s1⟩
  have hi : i < x.ks.length := by have := of_decide_eq_false h; omega
  rw [kidT_get hi]
  obtain ⟨b, cs, rfl, _, hE, hcell⟩ := (hk.still s1).get (List.getElem?_eq_getElem hi)
  have hE : NdE w1 F x.ks[i] cs := hE
  have hcell : CellsAt w1 (b.add (i * 8)) cs := hcell
  obtain ⟨pw', cw', pa', ca', pr', cr', po', co', pk', ck', rfl, _⟩ := hE.outs
  rw [Int.toNat_natCast]
  refine ⟨_, _, _, r1.lget rfl, by omega, by omega, _, _, _, _, _, _, _, _, _, _, _, _, _, _, _, _, _, _, hcell.zero, hcell 1 _ rfl, hcell 2 _ rfl, hcell 3 _ rfl, hcell 4 _ rfl, hcell 5 _ rfl, hcell 6 _ rfl, hcell 7 _ rfl, (ih _ (List.getElem_mem hi) w1 F _ hE).mono ?_⟩
  rintro _ w2 ⟨rfl, s2⟩
  exact .inl ⟨_, rfl, rfl, s1.trans s2⟩
theorem ugroup_spec {F : Nat → Prop} {x : Nd} {cs : List Value} (hx : NdE w F x cs) (hl : x.wt ≤ 1000000) (ih : KidsOk fn_unparse_Print x) : Calls Tryz.prog fn_unparse_group #[.agg ⟨cs⟩] w (Say w ([123, 32] ++ kidT (prNs x.ks) 0 ++ [59, 32, 125])) := by
  have hx' := hx
  obtain ⟨pw, cw, pa, ca, pr, cr, po, co, pk, ck, rfl, _⟩ := hx.outs
  have hkl := kidT_len x 0
  refine unparse_group_calls _ _ _ _ _ _ _ _ _ _ _ _ _ _ _ _ _ _ _ _ ?_
  refine allocK fun w1 r1 s1 z1 => ⟨_, _, _, _, _, _, _, _, _, _, _, _, _, _, _, _, _, _, r1.lget rfl, r1.lget rfl, r1.lget rfl, r1.lget rfl, r1.lget rfl, r1.lget rfl, r1.lget rfl, r1.lget rfl, (ukid_spec (hx'.still s1) hl ih 0).mono ?_⟩
  rintro _ w2 ⟨rfl, s2⟩
  exact .inl ⟨_, rfl, by simp only [List.length_cons, List.length_nil]; omega, by simp only [List.length_append, List.length_cons, List.length_nil]; omega, rfl, s1.trans s2⟩
theorem usub_spec {F : Nat → Prop} {x : Nd} {cs : List Value} (hx : NdE w F x cs) (hl : x.wt ≤ 1000000) (ih : KidsOk fn_unparse_Print x) : Calls Tryz.prog fn_unparse_sub #[.agg ⟨cs⟩] w (Say w ([40, 32] ++ kidT (prNs x.ks) 0 ++ [32, 41])) := by
  have hx' := hx
  obtain ⟨pw, cw, pa, ca, pr, cr, po, co, pk, ck, rfl, _⟩ := hx.outs
  have hkl := kidT_len x 0
  refine unparse_sub_calls _ _ _ _ _ _ _ _ _ _ _ _ _ _ _ _ _ _ _ _ ?_
  refine allocK fun w1 r1 s1 z1 => ⟨_, _, _, _, _, _, _, _, _, _, _, _, _, _, _, _, _, _, r1.lget rfl, r1.lget rfl, r1.lget rfl, r1.lget rfl, r1.lget rfl, r1.lget rfl, r1.lget rfl, r1.lget rfl, (ukid_spec (hx'.still s1) hl ih 0).mono ?_⟩
  rintro _ w2 ⟨rfl, s2⟩
  exact .inl ⟨_, rfl, by simp only [List.length_cons, List.length_nil]; omega, by simp only [List.length_append, List.length_cons, List.length_nil]; omega, rfl, s1.trans s2⟩
theorem ufunction_spec {F : Nat → Prop} {x : Nd} {cs : List Value} (hx : NdE w F x cs) (hl : x.wt ≤ 1000000) (ih : KidsOk fn_unparse_Print x) : Calls Tryz.prog fn_unparse_function #[.agg ⟨cs⟩] w (Say w (x.nm ++ [40, 41, 32] ++ kidT (prNs x.ks) 0)) := by
  have hx' := hx
  obtain ⟨pw, cw, pa, ca, pr, cr, po, co, pk, ck, rfl, _⟩ := hx.outs
  have hkl := kidT_len x 0
  have hwt := x.wt_eq
  refine unparse_function_calls _ _ _ _ _ _ _ _ _ _ _ _ _ _ _ _ _ _ _ _ ?_
  refine allocK fun w1 r1 s1 z1 => ?_
  have sD := drew_still w1
  refine ⟨fun wq => Still w1 wq, sD, x.nm, fun wq hq => (r1.still hq).lget rfl, by simp only [List.length_cons, List.length_nil]; omega, _, _, _, _, _, _, _, _, _, _, _, _, _, _, _, _, _, _, fun wq hq => (r1.still hq).lget rfl, fun wq hq => (r1.still hq).lget rfl, fun wq hq => (r1.still hq).lget rfl, fun wq hq => (r1.still hq).lget rfl, fun wq hq => (r1.still hq).lget rfl, fun wq hq => (r1.still hq).lget rfl, fun wq hq => (r1.still hq).lget rfl, fun wq hq => (r1.still hq).lget rfl, (ukid_spec (hx'.still (s1.trans sD)) hl ih 0).mono ?_⟩
  rintro _ w2 ⟨rfl, s2⟩
  exact .inl ⟨_, rfl, sD.trans s2, by simp only [List.length_append, List.length_cons, List.length_nil]; omega, rfl, (s1.trans sD).trans s2⟩
theorem callable_print : callable Tryz.prog fn_unparse_Print = true := by kernel_rfl
theorem kids_told {F : Nat → Prop} {x : Nd} {p : Option Addr} {c : Nat} (hk : ndE.At w F x.ks (.slice p x.ks.length c)) (hl : x.wt ≤ 1000000) (ih : KidsOk fn_unparse_Print x) : Calls Tryz.prog 44 #[.slice p x.ks.length c, .func (.func fn_unparse_Print) #[] #[]] w (Told w (prNs x.ks)) := by
  rw [prNs_map]
  have hwt := x.wt_eq
  have hnl := wtNs_len x.ks
  exact eachN_of hk (by omega) callable_print prN fun y hy w1 cs _ hE => ih y hy w1 F cs hE
theorem joinK_len (x : Nd) (sep : Txt) (hs : sep.length ≤ 4) : (joinT sep (prNs x.ks)).length ≤ 30 * x.wt := by
  have h1 := joinT_len sep hs (prNs x.ks)
  have h2 := prNs_len x.ks
  have h3 := x.wt_eq
  omega
theorem prNs_length (l : List Nd) : (prNs l).length = l.length := by rw [prNs_map, List.length_map]
theorem ulist_spec {F : Nat → Prop} {x : Nd} {cs : List Value} (hx : NdE w F x cs) (hl : x.wt ≤ 1000000) (ih : KidsOk fn_unparse_Print x) : Calls Tryz.prog fn_unparse_list #[.agg ⟨cs⟩] w (Say w (joinT [59, 32] (prNs x.ks))) := by
  obtain ⟨pw, cw, pa, ca, pr, cr, po, co, pk, ck, rfl, _, _, _, _, hk⟩ := hx.outs
  have hj := joinK_len x [59, 32] (by decide)
  have hpl := prNs_length x.ks
  have hwt := x.wt_eq
  have hnl := wtNs_len x.ks
  refine unparse_list_calls _ _ _ _ _ _ _ _ _ _ _ _ _ _ _ _ _ _ _ _ ?_
  refine allocK fun w1 r1 s1 z1 => ⟨_, _, _, r1.lget rfl, (kids_told (hk.still s1) hl ih).mono ?_⟩
  rintro _ w2 ⟨p, c, rfl, hS, s2⟩
  refine .inl ⟨_, _, _, rfl, (sjoin_spec hS [59, 32] (by omega) (by omega)).mono ?_⟩
  rintro _ w3 ⟨rfl, s3⟩
  exact .inl ⟨_, rfl, rfl, (s1.trans s2).trans s3⟩
theorem upipe_spec {F : Nat → Prop} {x : Nd} {cs : List Value} (hx : NdE w F x cs) (hl : x.wt ≤ 1000000) (ih : KidsOk fn_unparse_Print x) : Calls Tryz.prog fn_unparse_pipe #[.agg ⟨cs⟩] w (Say w ((if x.neg = true then [33, 32] else []) ++ joinT [32, 124, 32] (prNs x.ks))) := by
  obtain ⟨pw, cw, pa, ca, pr, cr, po, co, pk, ck, rfl, _, _, _, _, hk⟩ := hx.outs
  have hj := joinK_len x [32, 124, 32] (by decide)
  have hpl := prNs_length x.ks
  have hwt := x.wt_eq
  have hnl := wtNs_len x.ks
  refine unparse_pipe_calls _ _ _ _ _ _ _ _ _ _ _ _ _ _ _ _ _ _ _ _ ?_
  refine allocK fun w1 r1 s1 z1 => ⟨_, _, _, r1.lget rfl, (kids_told (hk.still s1) hl ih).mono ?_⟩
  rintro _ w2 ⟨p, c, rfl, hS, s2⟩
  refine .inl ⟨_, _, _, rfl, (sjoin_spec hS [32, 124, 32] (by omega) (by omega)).mono ?_⟩
  rintro _ w3 ⟨rfl, s3⟩
  have s03 := (s1.trans s2).trans s3
  refine .inl ⟨_, rfl, x.neg, ((r1.still s2).still s3).lget rfl, bsel_of (fun h => ?_) (fun h => ?_)⟩
  · rw [if_pos h]
    exact ⟨by simp only [List.length_cons, List.length_nil]; omega, rfl, s03⟩
  · rw [if_neg (by rw [h]; decide)]
    exact ⟨rfl, s03⟩
theorem Ss.app {w0 : World} {B n m : Nat} {l k : List Txt} {p q : Option Addr} {c : Nat} {K : Option Addr → Nat → World → Prop} (h : Ss w B l (.slice p n c)) (h0 : Still w0 w) (hB0 : w0.heap.size ≤ B) (hB : B ≤ w.heap.size) (hk : StrsAt w q m k) (hs : n + m ≤ 1000000000)
    (hK : ∀ p' c' w', Ss w' B (l ++ k) (.slice p' (n + m) c') → Still w0 w' → w.heap.size ≤ w'.heap.size → K p' c' w') : appK w 9 1 16 p n c q m K := by
  obtain ⟨p', c', he, ho⟩ := h
  injection he with e1 e2 e3
  subst e1 e2 e3
  refine appK_push ho hB (strs k) (by rw [strs_length, hk.1, Nat.mul_one]) (strs_one k) (fun hm => hk.2 hm) (by omega) (by omega) fun p' c' w' ho' hm _ => ?_
  have hz := hm.size
  refine hK p' c' w' ⟨p', c', by rw [List.length_append, hk.1], ?_⟩ (h0.own ho hB0 hm) hz
  rw [strs_append, List.length_append, hk.1]
  exact ho'
theorem Ss.strs {B n : Nat} {l : List Txt} {p : Option Addr} {c : Nat} (h : Ss w B l (.slice p n c)) : StrsAt w p n l := by
  obtain ⟨p', c', he, ho⟩ := h
  injection he with e1 e2 e3
  subst e1 e2 e3
  exact StrsAt.of ho
theorem ujoin_of {B n : Nat} {l : List Txt} {p : Option Addr} {c : Nat} (h : Ss w B l (.slice p n c)) (hl : n ≤ 1000000000) (hj : (joinT [32] l).length ≤ 140737488355328) :
    Calls Tryz.prog fn_unparse_join #[.slice p n c] w (Say w (joinT [32] l)) := by
  have h' := h
  obtain ⟨p', c', he, ho⟩ := h'
  injection he with e1 e2 e3
  subst e1 e2 e3
  exact ujoin_spec h hl hj
theorem callable_word : callable Tryz.prog fn_word_Print = true := by kernel_rfl
theorem callable_redir : callable Tryz.prog fn_unparse_redir = true := by kernel_rfl
theorem callable_assign : callable Tryz.prog fn_unparse_assign = true := by kernel_rfl
theorem words_told {F : Nat → Prop} {l : List (List Pt)} {p : Option Addr} {n c : Nat} (hw : wsE.At w F l (.slice p n c)) (hl : wtW l < 1000000) : Calls Tryz.prog 41 #[.slice p n c, .func (.func fn_word_Print) #[] #[]] w (Told w (l.map prL)) := by
  have := wtW_len l
  exact eachW_of hw (by omega) callable_word prL fun x hx w1 v _ hE => Print_spec hE (by have := wtW_mem hx; omega)
theorem redirs_told {F : Nat → Prop} {l : List (Txt × List Pt)} {p : Option Addr} {n c : Nat} (hw : nsE.At w F l (.slice p n c)) (hl : wtP l < 1000000) : Calls Tryz.prog 27 #[.slice p n c, .func (.func fn_unparse_redir) #[] #[]] w (Told w (l.map prR)) := by
  have := wtP_len l
  exact eachR_of hw (by omega) callable_redir prR fun x hx w1 v _ hE => by have := wtP_mem hx; exact uredir_spec hE (by omega) (by omega)
theorem assigns_told {F : Nat → Prop} {l : List (Txt × List Pt)} {p : Option Addr} {n c : Nat} (hw : nsE.At w F l (.slice p n c)) (hl : wtP l < 1000000) : Calls Tryz.prog 39 #[.slice p n c, .func (.func fn_unparse_assign) #[] #[]] w (Told w (l.map prA)) := by
  have := wtP_len l
  exact eachA_of hw (by omega) callable_assign prA fun x hx w1 v _ hE => by have := wtP_mem hx; exact uassign_spec hE (by omega) (by omega)
theorem usimple_spec {F : Nat → Prop} {x : Nd} {cs : List Value} (hx : NdE w F x cs) (hl : x.wt ≤ 1000000) : Calls Tryz.prog fn_unparse_simple #[.agg ⟨cs⟩] w (Say w (joinT [32] (x.rs.map prR ++ x.as.map prA ++ x.ws.map prL))) := by
  obtain ⟨pw, cw, pa, ca, pr, cr, po, co, pk, ck, rfl, hw, ha, hr, _, _⟩ := hx.outs
  have hwt := x.wt_eq
  have l1 := wtW_len x.ws
  have l2 := wtP_len x.as
  have l3 := wtP_len x.rs
  have m1 := lenT_words x.ws
  have m2 := lenT_asgs x.as
  have m3 := lenT_reds x.rs
  have hj := joinT_len [32] (by decide) (x.rs.map prR ++ x.as.map prA ++ x.ws.map prL)
  rw [lenT_append, lenT_append] at hj
  have g1 : (x.ws.map prL).length = x.ws.length := List.length_map ..
  have g2 : (x.as.map prA).length = x.as.length := List.length_map ..
  have g3 : (x.rs.map prR).length = x.rs.length := List.length_map ..
  refine unparse_simple_calls _ _ _ _ _ _ _ _ _ _ _ _ _ _ _ _ _ _ _ _ ?_
  refine allocK fun w1 r1 s1 z1 => ⟨_, _, _, r1.lget rfl, (redirs_told (hr.still s1) (by omega)).mono ?_⟩
  rintro _ w2 ⟨p1, c1, rfl, hS1, s2⟩
  refine .inl ⟨_, _, _, rfl, _, _, _, (r1.still s2).lget rfl, (assigns_told ((ha.still s1).still s2) (by omega)).mono ?_⟩
  rintro _ w3 ⟨p2, c2, rfl, hS2, s3⟩
  refine .inl ⟨_, _, _, rfl, (hS1.still s3).app (s2.trans s3) (Nat.le_refl _) (by have := s2.size; have := s3.size; omega) hS2.strs (by omega) fun p3 c3 w4 hS4 s4 z4 => ?_⟩
  refine ⟨_, _, _, (r1.still s4).lget rfl, (words_told ((hw.still s1).still s4) (by omega)).mono ?_⟩
  rintro _ w5 ⟨p5, c5, rfl, hS5, s5⟩
  refine .inl ⟨_, _, _, rfl, (hS4.still s5).app (s4.trans s5) (Nat.le_refl _) (by have := s4.size; have := s5.size; omega) hS5.strs (by omega) fun p6 c6 w6 hS6 s6 z6 => ?_⟩
  refine (ujoin_of hS6 (by omega) (by omega)).mono ?_
  rintro _ w7 ⟨rfl, s7⟩
  exact .inl ⟨_, rfl, rfl, (s1.trans s6).trans s7⟩
theorem uloop_spec {F : Nat → Prop} {x : Nd} {cs : List Value} (hx : NdE w F x cs) (hl : x.wt ≤ 1000000) (ih : KidsOk fn_unparse_Print x) : Calls Tryz.prog fn_unparse_loop #[.agg ⟨cs⟩] w (Say w (x.nm ++ [32] ++ kidT (prNs x.ks) 0 ++ [59, 32, 100, 111, 32] ++ kidT (prNs x.ks) 1 ++ [59, 32, 100, 111, 110, 101])) := by
  have hx' := hx
  obtain ⟨pw, cw, pa, ca, pr, cr, po, co, pk, ck, rfl, _⟩ := hx.outs
  have hkl := kidT_len x 0
  have hkl1 := kidT_len x 1
  have hwt := x.wt_eq
  refine unparse_loop_calls _ _ _ _ _ _ _ _ _ _ _ _ _ _ _ _ _ _ _ _ ?_
  refine allocK fun w1 r1 s1 z1 => ?_
  have sD := drew_still w1
  refine ⟨fun wq => Still w1 wq, sD, x.nm, fun wq hq => (r1.still hq).lget rfl, by simp only [List.length_cons, List.length_nil]; omega, _, _, _, _, _, _, _, _, _, _, _, _, _, _, _, _, _, _, fun wq hq => (r1.still hq).lget rfl, fun wq hq => (r1.still hq).lget rfl, fun wq hq => (r1.still hq).lget rfl, fun wq hq => (r1.still hq).lget rfl, fun wq hq => (r1.still hq).lget rfl, fun wq hq => (r1.still hq).lget rfl, fun wq hq => (r1.still hq).lget rfl, fun wq hq => (r1.still hq).lget rfl, _, _, _, _, _, _, _, _, _, _, _, _, _, _, _, _, _, _, fun wq hq => (r1.still hq).lget rfl, fun wq hq => (r1.still hq).lget rfl, fun wq hq => (r1.still hq).lget rfl, fun wq hq => (r1.still hq).lget rfl, fun wq hq => (r1.still hq).lget rfl, fun wq hq => (r1.still hq).lget rfl, fun wq hq => (r1.still hq).lget rfl, fun wq hq => (r1.still hq).lget rfl, (ukid_spec (hx'.still (s1.trans sD)) hl ih 0).mono ?_⟩
  rintro _ w2 ⟨rfl, s2⟩
  refine .inl ⟨_, rfl, sD.trans s2, by simp only [List.length_append, List.length_cons, List.length_nil]; omega, by simp only [List.length_append, List.length_cons, List.length_nil]; omega, (ukid_spec ((hx'.still (s1.trans sD)).still s2) hl ih 1).mono ?_⟩
  rintro _ w3 ⟨rfl, s3⟩
  exact .inl ⟨_, rfl, (sD.trans s2).trans s3, by simp only [List.length_append, List.length_cons, List.length_nil]; omega, by simp only [List.length_append, List.length_cons, List.length_nil]; omega, rfl, ((s1.trans sD).trans s2).trans s3⟩
theorem uchoice_spec {F : Nat → Prop} {x : Nd} {cs : List Value} (hx : NdE w F x cs) (hl : x.wt ≤ 1000000) (ih : KidsOk fn_unparse_Print x) : Calls Tryz.prog fn_unparse_choice #[.agg ⟨cs⟩] w (Say w ([105, 102, 32] ++ kidT (prNs x.ks) 0 ++ [59, 32, 116, 104, 101, 110, 32] ++ kidT (prNs x.ks) 1 ++ (if 2 < (prNs x.ks).length then [59, 32, 101, 108, 115, 101, 32] ++ kidT (prNs x.ks) 2 else []) ++ [59, 32, 102, 105])) := by
  have hx' := hx
  obtain ⟨pw, cw, pa, ca, pr, cr, po, co, pk, ck, rfl, _⟩ := hx.outs
  have hkl := kidT_len x 0
  have hkl1 := kidT_len x 1
  have hkl2 := kidT_len x 2
  have hpl := prNs_length x.ks
  refine unparse_choice_calls _ _ _ _ _ _ _ _ _ _ _ _ _ _ _ _ _ _ _ _ ?_
  refine allocK fun w1 r1 s1 z1 => ?_
  have sD := drew_still w1
  refine ⟨fun wq => Still w1 wq, sD, _, _, _, _, _, _, _, _, _, _, _, _, _, _, _, _, _, _, fun wq hq => (r1.still hq).lget rfl, fun wq hq => (r1.still hq).lget rfl, fun wq hq => (r1.still hq).lget rfl, fun wq hq => (r1.still hq).lget rfl, fun wq hq => (r1.still hq).lget rfl, fun wq hq => (r1.still hq).lget rfl, fun wq hq => (r1.still hq).lget rfl, fun wq hq => (r1.still hq).lget rfl, _, _, _, _, _, _, _, _, _, _, _, _, _, _, _, _, _, _, fun wq hq => (r1.still hq).lget rfl, fun wq hq => (r1.still hq).lget rfl, fun wq hq => (r1.still hq).lget rfl, fun wq hq => (r1.still hq).lget rfl, fun wq hq => (r1.still hq).lget rfl, fun wq hq => (r1.still hq).lget rfl, fun wq hq => (r1.still hq).lget rfl, fun wq hq => (r1.still hq).lget rfl, (ukid_spec (hx'.still (s1.trans sD)) hl ih 0).mono ?_⟩
  rintro _ w2 ⟨rfl, s2⟩
  have s02 := (s1.trans sD).trans s2
  refine .inl ⟨_, rfl, sD.trans s2, by simp only [List.length_cons, List.length_nil]; omega, by simp only [List.length_append, List.length_cons, List.length_nil]; omega, (ukid_spec (hx'.still s02) hl ih 1).mono ?_⟩
  rintro _ w3 ⟨rfl, s3⟩
  have s03 := s02.trans s3
  have r3 := ((r1.still sD).still s2).still s3
  refine .inl ⟨_, rfl, by simp only [List.length_append, List.length_cons, List.length_nil]; omega, _, _, _, r3.lget rfl, bsel_of (fun h => ?_) (fun h => ?_)⟩
  · rw [if_pos (by have := of_decide_eq_true h; omega)]
    refine ⟨_, _, _, _, _, _, _, _, _, _, _, _, _, _, _, _, _, _, r3.lget rfl, r3.lget rfl, r3.lget rfl, r3.lget rfl, r3.lget rfl, r3.lget rfl, r3.lget rfl, r3.lget rfl, (ukid_spec (hx'.still s03) hl ih 2).mono ?_⟩
    rintro _ w4 ⟨rfl, s4⟩
    exact .inl ⟨_, rfl, by simp only [List.length_cons, List.length_nil]; omega, by simp only [List.length_append, List.length_cons, List.length_nil]; omega, by simp only [List.length_append, List.length_cons, List.length_nil]; omega, rfl, s03.trans s4⟩
  · rw [if_neg (by have := of_decide_eq_false h; omega), List.append_nil]
    exact ⟨by simp only [List.length_append, List.length_cons, List.length_nil]; omega, rfl, s03⟩
theorem uitem_spec {F : Nat → Prop} {x : Nd} {cs : List Value} (hx : NdE w F x cs) (hl : x.wt ≤ 1000000) (ih : KidsOk fn_unparse_Print x) : Calls Tryz.prog fn_unparse_item #[.agg ⟨cs⟩] w (Say w ([40, 32] ++ joinT [32, 124, 32] (x.ws.map prL) ++ [32, 41, 32] ++ kidT (prNs x.ks) 0 ++ [59, 59])) := by
  have hx' := hx
  obtain ⟨pw, cw, pa, ca, pr, cr, po, co, pk, ck, rfl, hw, _⟩ := hx.outs
  have hkl := kidT_len x 0
  have hwt := x.wt_eq
  have l1 := wtW_len x.ws
  have m1 := lenT_words x.ws
  have g1 : (x.ws.map prL).length = x.ws.length := List.length_map ..
  have hj := joinT_len [32, 124, 32] (by decide) (x.ws.map prL)
  refine unparse_item_calls _ _ _ _ _ _ _ _ _ _ _ _ _ _ _ _ _ _ _ _ ?_
  refine allocK fun w1 r1 s1 z1 => ?_
  have sD := drew_still w1
  refine ⟨fun wq => Still w1 wq, sD, _, _, _, fun wq hq => (r1.still hq).lget rfl, _, _, _, _, _, _, _, _, _, _, _, _, _, _, _, _, _, _, fun wq hq => (r1.still hq).lget rfl, fun wq hq => (r1.still hq).lget rfl, fun wq hq => (r1.still hq).lget rfl, fun wq hq => (r1.still hq).lget rfl, fun wq hq => (r1.still hq).lget rfl, fun wq hq => (r1.still hq).lget rfl, fun wq hq => (r1.still hq).lget rfl, fun wq hq => (r1.still hq).lget rfl, (words_told (hw.still (s1.trans sD)) (by omega)).mono ?_⟩
  rintro _ w2 ⟨p2, c2, rfl, hS2, s2⟩
  refine .inl ⟨_, _, _, rfl, sD.trans s2, (sjoin_spec hS2 [32, 124, 32] (by omega) (by omega)).mono ?_⟩
  rintro _ w3 ⟨rfl, s3⟩
  have s03 := ((s1.trans sD).trans s2).trans s3
  refine .inl ⟨_, rfl, (sD.trans s2).trans s3, by simp only [List.length_cons, List.length_nil]; omega, by simp only [List.length_append, List.length_cons, List.length_nil]; omega, (ukid_spec (hx'.still s03) hl ih 0).mono ?_⟩
  rintro _ w4 ⟨rfl, s4⟩
  exact .inl ⟨_, rfl, by simp only [List.length_append, List.length_cons, List.length_nil]; omega, by simp only [List.length_append, List.length_cons, List.length_nil]; omega, rfl, s03.trans s4⟩
end Go.Proofs.YthommfjiaalecaaGreatDoor
