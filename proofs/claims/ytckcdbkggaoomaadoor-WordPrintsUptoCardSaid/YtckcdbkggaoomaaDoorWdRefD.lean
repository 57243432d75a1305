/- The reference's parser of words: what a dollar begins, and what is within quotes. Conditions: texts of fewer than a million bytes; words are parsed one level deeper as wpL says. -/
import Derived.Test.YtckcdbkggaoomaaDoorWdRefB
import Derived.Test.YtckcdbkggaoomaaDoorLxRef
namespace Go.Proofs.YtckcdbkggaoomaaDoor
open Go.RowKit Vc
variable {w : World}

theorem pf_dollar (x : UInt8) (r : Txt) : pf [36, x] (36 :: r) = decide (r.head? = some x) := by
  rw [pf_isPrefixOf]
  cases r with
  | nil => rfl
  | cons c r =>
    rw [Bool.eq_iff_iff]
    simp [List.isPrefixOf]
    exact eq_comm
def RDPost (w : World) (L : Nat) (q : Bool) (s : Txt) (e : Ending) (w' : World) : Prop := (∃ (x : Pt) (vw : Value) (n : Nat), SlAt w' (fun k => w.heap.size ≤ k) x.w vw ∧ match dollarF (wpL L) q s with
  | .ok p => e = .returned (.tuple #[pagg x vw, .int .i64 (n : Int), .int .i64 0]) ∧ p = (x, n)
  | .bad k => e = .returned (.tuple #[pagg x vw, .int .i64 (n : Int), .int .i64 (k : Int)])) ∧ Still w w'
set_option maxHeartbeats 1000000 in
theorem ref_dollar_of {L : Nat} (hL : L ≤ 30) (ih : RPartsS L) (r : Txt) (q : Bool) (hl : (36 :: r).length < 1000000) : Calls Tryd.prog fn_ref08_dollar #[.string (S (36 :: r)), .bool q, .int .i64 (30 - (L : Int))] w (RDPost w L q (36 :: r)) := by
  refine ref08_dollar_calls _ _ _ _ _ ?_
  refine allocK fun w1 r1 s1 z1 => ?_
  have hl' : r.length < 999999 := by simp only [List.length_cons] at hl; omega
  -- an end
  have fin : ∀ (x : Pt) (n : Nat) (w5 : World), Row w5 w.heap.size 39 ⟨pcell (.mk 0 false [] [] [] []) (.slice none 0 0)⟩ → Still w w5 → x.w = [] → dollarF (wpL L) q (36 :: r) = .ok (x, n) →
      stCells (Addr.mk w.heap.size 0 none) (fun (w6 : World) => ∃ vKind : Int, ∃ vQuoted : Bool, ∃ vText : List UInt8, ∃ vName : List UInt8, ∃ vOp : List UInt8, ∃ (vWord : Option Addr) (vWordL vWordC : Nat), w6.cell? (Addr.mk w.heap.size 0 none) = some (.int .i64 vKind) ∧ w6.cell? (Addr.mk w.heap.size 1 none) = some (.bool vQuoted) ∧ w6.cell? (Addr.mk w.heap.size 2 none) = some (.string (S vText)) ∧ w6.cell? (Addr.mk w.heap.size 3 none) = some (.string (S vName)) ∧ w6.cell? (Addr.mk w.heap.size 4 none) = some (.string (S vOp)) ∧ w6.cell? (Addr.mk w.heap.size 5 none) = some (.slice vWord vWordL vWordC) ∧ RDPost w L q (36 :: r) (.returned (.tuple #[(.agg #[(.int .i64 vKind), (.bool vQuoted), (.string (S vText)), (.string (S vName)), (.string (S vOp)), (.slice vWord vWordL vWordC)]), (.int .i64 (n : Int)), (.int .i64 (0 : Int))])) w6) 0 [.int .i64 x.k, .bool x.q, .string (S x.t), .string (S x.n), .string (S x.o), .slice none 0 0] w5 := by
    intro x n w5 r5 s5 hx hd
    refine stK r5 (by simp [pcell]) (by simp [Value.oneCell']) fun w6 r6 m6 z6 => ⟨x.k, x.q, x.t, x.n, x.o, none, 0, 0, r6.lget rfl, r6.lget rfl, r6.lget rfl, r6.lget rfl, r6.lget rfl, r6.lget rfl, ⟨x, .slice none 0 0, n, by rw [hx]; exact SlAt.nil _ _ _ _, ?_⟩, s5.box (Nat.le_refl _) m6⟩
    rw [hd]
    exact ⟨rfl, rfl⟩
  refine ⟨fun w15 => w15 = w1 ∧ ¬ (r.head? = some 40 ∨ r.head? = some 123), ⟨fun b w4 => w4 = w1 ∧ (b = true ↔ r.head? = some 40 ∨ r.head? = some 123), (ref_begins_spec (36 :: r) [36, 40] hl (by decide)).mono ?_, ?_⟩, ?_⟩
  · rintro _ w2 ⟨rfl, rfl⟩
    rw [pf_dollar]
    refine .inl ⟨_, rfl, bsel_of (fun h => ⟨rfl, fun _ => .inl (of_decide_eq_true h), fun _ => rfl⟩) (fun h => (ref_begins_spec (36 :: r) [36, 123] hl (by decide)).mono ?_)⟩
    rintro _ w3 ⟨rfl, rfl⟩
    rw [pf_dollar]
    refine .inl ⟨_, rfl, rfl, ?_⟩
    rw [decide_eq_true_eq]
    exact ⟨.inr, fun e => e.resolve_left (of_decide_eq_false h)⟩
  · rintro b _ w4 ⟨rfl, hb⟩
    refine bsel_of (fun h => ?_) (fun h => ⟨rfl, fun e => (by rw [hb.2 e] at h; cases h)⟩)
    have hh := hb.1 h
    obtain ⟨c, y, rfl⟩ : ∃ c y, r = c :: y := by
      cases r with
      | nil => rcases hh with e | e <;> cases e
      | cons c y => exact ⟨c, y, rfl⟩
    have hc : c = 40 ∨ c = 123 := by simpa using hh
    refine (ref_skip_spec (36 :: c :: y) 0 (by simp) hl).mono ?_
    rintro _ w5 ⟨rfl, rfl⟩
    have hd := dollarF_group (P := wpL L) (q := q) (r := y) hc
    rw [List.drop_zero]
    refine .inl ⟨_, rfl, ?_⟩
    cases hu : unitD 30 (36 :: c :: y) with
    | none =>
      rw [hu] at hd
      refine bsel_of (fun _ => ?_) (fun h => absurd (show (-1 : Int) < 0 by decide) (of_decide_eq_false h))
      refine stK r1 (by simp) (by simp [Value.oneCell']) fun w6 r6 m6 z6 => ⟨0, false, [], [], [], none, 0, 0, r6.lget rfl, r6.lget rfl, r6.lget rfl, r6.lget rfl, r6.lget rfl, r6.lget rfl, ⟨.mk 0 false [] [] [] [], .slice none 0 0, 0, SlAt.nil _ _ _ _, ?_⟩, s1.box (Nat.le_refl _) m6⟩
      rw [hd]
      rfl
    | some t =>
      obtain ⟨h1, h2, h3⟩ := unitN_pos hu
      have h4 := unit_bracket hc hu
      have hix : ix (36 :: c :: y) (some t) = (unitN (36 :: c :: y) : Int) := by rw [h1]; rfl
      rw [hu] at hd
      dsimp only at hd
      rw [hix]
      generalize unitN (36 :: c :: y) = n at h1 h2 h3 hd hix
      have h5 : 3 ≤ n := by omega
      have e1 : IntKind.i64.wrap ((n : Int) - 1) = ((n - 1 : Nat) : Int) := by rw [wrap_i64 (by omega) (by omega)]; omega
      have e2 : IntKind.i64.wrap ((n : Int) - 2) = ((n - 2 : Nat) : Int) := by rw [wrap_i64 (by omega) (by omega)]; omega
      rw [e1, e2]
      refine bsel_of (fun h => absurd (of_decide_eq_true h) (by omega)) (fun _ => ⟨by decide, c, rfl, bsel_of (fun h7 => ?_) (fun h7 => ?_)⟩)
      · have hc3 : c = 123 := byte_eq.1 (of_decide_eq_true h7)
        subst hc3
        rw [if_pos rfl] at hd
        have hin : ((36 :: 123 :: y : Txt).drop (Int.toNat 2)).take (Int.toNat ((n - 1 : Nat) : Int) - Int.toNat 2) = y.take (n - 3) := by
          rw [Int.toNat_natCast]
          show y.take (n - 1 - 2) = _
          rw [show n - 1 - 2 = n - 3 by omega]
        have hil : (y.take (n - 3)).length ≤ y.length := by rw [List.length_take]; omega
        simp only [List.length_cons] at hl'
        refine ⟨by decide, by omega, by omega, ?_⟩
        rw [hin]
        refine (ref_braces_of hL ih (y.take (n - 3)) q (by omega)).mono ?_
        rintro e7 w7 ⟨⟨x, vw, hsl, hm⟩, s7⟩
        obtain ⟨wp, wc, rfl⟩ := hsl.form
        have z7 := s7.size
        -- the part is told, whatever the number
        have key : ∃ k : Nat, e7 = .returned (.tuple #[pagg x (.slice wp x.w.length wc), .int .i64 (k : Int)]) ∧ (match bracesF (wpL L) q (y.take (n - 3)) with
            | .ok p => k = 0 ∧ x = p
            | .bad j => k = j) := by
          cases hb : bracesF (wpL L) q (y.take (n - 3)) with
          | ok p =>
            rw [hb] at hm
            exact ⟨0, hm.1, rfl, hm.2⟩
          | bad j =>
            rw [hb] at hm
            exact ⟨j, hm, rfl⟩
        obtain ⟨k, he, hk⟩ := key
        refine .inl ⟨x.k, x.q, x.t, x.n, x.o, wp, x.w.length, wc, (k : Int), he, boxK rfl one6 fun w9 r9 s9 z9 => ⟨x.k, x.q, x.t, x.n, x.o, wp, x.w.length, wc, r9.lget rfl, r9.lget rfl, r9.lget rfl, r9.lget rfl, r9.lget rfl, r9.lget rfl, ?_⟩⟩
        have s79 := s7.trans s9
        refine stK (r1.still s79) (by simp) one6 fun w10 r10 m10 z10 => ⟨x.k, x.q, x.t, x.n, x.o, wp, x.w.length, wc, r10.lget rfl, r10.lget rfl, r10.lget rfl, r10.lget rfl, r10.lget rfl, r10.lget rfl, ⟨x, .slice wp x.w.length wc, n, ((hsl.still s9).mod m10 fun j hj e => by omega).mono fun j hj => by omega, ?_⟩, (s1.trans s79).box (Nat.le_refl _) m10⟩
        rw [hd]
        cases hb : bracesF (wpL L) q (y.take (n - 3)) with
        | ok p =>
          rw [hb] at hk
          obtain ⟨rfl, rfl⟩ := hk
          exact ⟨rfl, rfl⟩
        | bad j =>
          rw [hb] at hk
          have hk : k = j := hk
          subst hk
          rfl
      · have hc3 : ¬ c = 123 := fun e => of_decide_eq_false h7 (byte_eq.2 e)
        rw [if_neg hc3] at hd
        refine ⟨fun w13 => w13 = w5 ∧ ¬ (4 < n ∧ (36 :: c :: y)[2]? = some 40 ∧ (36 :: c :: y)[n - 2]? = some 41), ⟨fun b w11 => w11 = w5 ∧ (b = true ↔ (4 < n ∧ (36 :: c :: y)[2]? = some 40 ∧ (36 :: c :: y)[n - 2]? = some 41)), bsel_of (fun h6 => ?_) (fun h6 => ⟨rfl, fun e => (by cases e), fun e => ?_⟩), ?_⟩, ?_⟩
        · have h6 : 4 < n := by have := of_decide_eq_true h6; omega
          obtain ⟨b1, hb1⟩ : ∃ b1, (36 :: c :: y)[2]? = some b1 := ⟨_, List.getElem?_eq_getElem (by omega)⟩
          obtain ⟨b2, hb2⟩ : ∃ b2, (36 :: c :: y)[n - 2]? = some b2 := ⟨_, List.getElem?_eq_getElem (by omega)⟩
          refine ⟨by decide, b1, hb1, bsel_of (fun h8 => ⟨by omega, b2, by rw [Int.toNat_natCast]; exact hb2, rfl, ?_⟩) (fun h8 => ⟨rfl, fun e => (by cases e), fun e => ?_⟩)⟩
          · rw [decide_eq_true_eq, byte_some hb1, byte_some hb2]
            exact ⟨fun e => ⟨h6, of_decide_eq_true h8, e⟩, fun e => e.2.2⟩
          · rw [byte_some hb1] at e
            exact absurd e.2.1 (of_decide_eq_false h8)
        · have := of_decide_eq_false h6
          omega
        · rintro b _ w11 ⟨rfl, hb⟩
          refine bsel_of (fun h8 => ?_) (fun h8 => ⟨rfl, fun e => (by rw [hb.2 e] at h8; cases h8)⟩)
          rw [if_pos (hb.1 h8)] at hd
          have h9 := (hb.1 h8).1
          have ht : ((36 :: c :: y : Txt).drop (Int.toNat 3)).take (Int.toNat ((n - 2 : Nat) : Int) - Int.toNat 3) = ((36 :: c :: y).drop 3).take (n - 5) := by
            rw [Int.toNat_natCast]
            show ((36 :: c :: y : Txt).drop 3).take (n - 2 - 3) = _
            rw [show n - 2 - 3 = n - 5 by omega]
          rw [ht]
          exact ⟨by decide, by omega, by omega, fin (.mk 3 q (((36 :: c :: y).drop 3).take (n - 5)) [] [] []) n _ r1 s1 rfl hd⟩
        · rintro _ w13 ⟨rfl, hno⟩
          rw [if_neg hno] at hd
          have ht : ((36 :: c :: y : Txt).drop (Int.toNat 2)).take (Int.toNat ((n - 1 : Nat) : Int) - Int.toNat 2) = y.take (n - 3) := by
            rw [Int.toNat_natCast]
            show y.take (n - 1 - 2) = _
            rw [show n - 1 - 2 = n - 3 by omega]
          rw [ht]
          exact ⟨by decide, by omega, by omega, fin (.mk 2 q (y.take (n - 3)) [] [] []) n _ r1 s1 rfl hd⟩
  rintro _ w15 ⟨rfl, hno⟩
  have hd0 : dollarF (wpL L) q (36 :: r) = if 0 < nameN r then .ok (.mk 1 q [] (r.take (nameN r)) [] [], nameN r + 1) else if 0 < specN r then .ok (.mk 1 q [] (r.take 1) [] [], 2) else .ok (.mk 0 q [36] [] [] [], 1) := by
    unfold dollarF
    simp only [List.drop_succ_cons, List.drop_zero]
    rw [if_neg hno]
  have hnl := nameN_le r
  have hsp1 := specN_one r
  have hspl := specN_le r
  have e1 : (36 :: r : Txt).drop (Int.toNat 1) = r := rfl
  refine ⟨by decide, by simp only [List.length_cons]; omega, ?_⟩
  rw [e1]
  refine (ref_Name_spec r (by omega)).mono ?_
  rintro _ w16 ⟨rfl, rfl⟩
  refine .inl ⟨_, rfl, fun n w19 => w19 = w16 ∧ n = ((if 0 < nameN r then nameN r else specN r : Nat) : Int), ⟨fun b w18 => w18 = w16 ∧ (b = true ↔ nameN r = 0 ∧ 0 < specN r), bsel_of (fun h => bsel_of (fun h2 => ?_) (fun h2 => ?_)) (fun h => ?_), ?_⟩, ?_⟩
  · have h : nameN r = 0 := by have := of_decide_eq_true h; omega
    have h2 : 1 < (36 :: r).length := by have := of_decide_eq_true h2; omega
    obtain ⟨c, y, rfl⟩ : ∃ c y, r = c :: y := by
      cases r with
      | nil => simp at h2
      | cons c y => exact ⟨c, y, rfl⟩
    refine ⟨by decide, c, rfl, (ref_special_spec c).mono ?_⟩
    rintro _ w17 ⟨rfl, rfl⟩
    refine .inl ⟨_, rfl, rfl, ?_⟩
    simp only [specN]
    refine ⟨fun e => ⟨h, by rw [if_pos e]; decide⟩, fun e => ?_⟩
    have := e.2
    split at this
    · assumption
    · omega
  · have h2 : ¬ 1 < (36 :: r).length := by have := of_decide_eq_false h2; omega
    have : r = [] := by
      cases r with
      | nil => rfl
      | cons c y => simp at h2
    subst this
    exact ⟨rfl, fun e => (by cases e), fun e => absurd e.2 (by decide)⟩
  · have h : ¬ nameN r = 0 := by have := of_decide_eq_false h; omega
    exact ⟨rfl, fun e => (by cases e), fun e => absurd e.1 h⟩
  · rintro b _ w18 ⟨rfl, hb⟩
    refine bsel_of (fun h => ⟨rfl, ?_⟩) (fun h => ⟨rfl, ?_⟩)
    · have hh := hb.1 h
      rw [if_neg (by omega), show specN r = 1 by omega]
      rfl
    · by_cases h0 : 0 < nameN r
      · rw [if_pos h0]
      · have : ¬ 0 < specN r := fun e => by rw [hb.2 ⟨by omega, e⟩] at h; cases h
        rw [if_neg h0]
        omega
  rintro _ _ w19 ⟨rfl, rfl⟩
  have hm1 : (if 0 < nameN r then nameN r else specN r) ≤ r.length := by split <;> omega
  have hd1 : dollarF (wpL L) q (36 :: r) = if (if 0 < nameN r then nameN r else specN r) = 0 then .ok (.mk 0 q [36] [] [] [], 1) else .ok (.mk 1 q [] (r.take (if 0 < nameN r then nameN r else specN r)) [] [], (if 0 < nameN r then nameN r else specN r) + 1) := by
    rw [hd0]
    by_cases h0 : 0 < nameN r
    · simp only [if_pos h0]
      rw [if_neg (by omega)]
    · simp only [if_neg h0]
      by_cases h6 : 0 < specN r
      · rw [if_pos h6, if_neg (by omega), show specN r = 1 by omega]
      · rw [if_neg h6, if_pos (by omega)]
  generalize (if 0 < nameN r then nameN r else specN r) = m at hm1 hd1
  refine bsel_of (fun h5 => ?_) (fun h5 => ?_)
  · have h5 : m = 0 := by have := of_decide_eq_true h5; omega
    rw [if_pos h5] at hd1
    exact fin (.mk 0 q [36] [] [] []) 1 _ r1 s1 rfl hd1
  · have h5 : ¬ m = 0 := by have := of_decide_eq_false h5; omega
    rw [if_neg h5] at hd1
    have e2 : IntKind.i64.wrap ((m : Int) + 1) = ((m + 1 : Nat) : Int) := by rw [wrap_i64 (by omega) (by omega)]; omega
    rw [e2]
    have ht : r.take (Int.toNat ((m + 1 : Nat) : Int) - Int.toNat 1) = r.take m := by
      rw [Int.toNat_natCast]
      rfl
    rw [ht]
    exact ⟨by decide, by omega, by simp only [List.length_cons]; omega, fin (.mk 1 q [] (r.take m) [] []) (m + 1) _ r1 s1 rfl hd1⟩
/-- Within quotes. -/
def RQPost (w : World) (L : Nat) (s : Txt) (e : Ending) (w' : World) : Prop := (match dblF (wpL L) s with
  | .ok l => ∃ v, e = .returned (.tuple #[v, .int .i64 0]) ∧ SlAt w' (fun k => w.heap.size ≤ k) l v
  | .bad k => e = .returned (.tuple #[.slice none 0 0, .int .i64 (k : Int)])) ∧ Still w w'
set_option maxHeartbeats 1000000 in
theorem ref_double_of {L : Nat} (hL : L ≤ 30) (ih : RPartsS L) (s : Txt) (hl : s.length < 1000000) : Calls Tryd.prog fn_ref08_double #[.string (S s), .int .i64 (30 - (L : Int))] w (RQPost w L s) := by
  refine ref08_double_calls _ _ _ _ ?_
  refine bsel_of (fun h => ?_) (fun h => ?_)
  · have h : s = [] := of_decide_eq_true h
    subst h
    refine allocK fun w1 r1 s1 z1 => ?_
    have r1 : Row w1 w.heap.size 39 ⟨pcell (tx true []) (.slice none 0 0)⟩ := r1
    refine ⟨⟨_, rfl, some ⟨w.heap.size, 0, none⟩, 1, rfl, Nat.le_refl _, fun _ => ⟨_, rfl, Nat.le_refl _, ?_⟩⟩, s1⟩
    refine PsAt.of fun i x hx => ?_
    have hi : i = 0 := by
      cases i with
      | zero => rfl
      | succ i => simp at hx
    subst hi
    obtain rfl := Option.some.inj hx
    refine PtAt.of (fun j u hu => ?_) (SlAt.nil _ _ none 0)
    rw [adds, add_row, show 0 + (0 * 6 + j) = j by omega]
    exact r1.lget hu
  have h : s ≠ [] := of_decide_eq_false h
  have hdbl : dblF (wpL L) s = loopF (dblOne (wpL L)) (s.length + 1) [] s := by unfold dblF; rw [if_neg h]
  refine ⟨fun s1 out n c w2 => ∃ acc, SlAt w2 (fun k => w.heap.size ≤ k) acc (.slice out n c) ∧ Still w w2 ∧ s1.length ≤ s.length ∧ loopF (dblOne (wpL L)) (s1.length + 1) acc s1 = loopF (dblOne (wpL L)) (s.length + 1) [] s ∧ wtL acc + 12 * s1.length ≤ 12 * s.length, fun s1 _ _ _ _ => s1.length, ⟨[], SlAt.nil _ _ _ _, Still.refl _, Nat.le_refl _, rfl, by simp [wtL]⟩, ?_⟩
  rintro s1 out n c _ w2 ⟨acc, hacc, s2, hle, hlp, hwt⟩
  obtain ⟨rfl, hcap⟩ := hacc.len
  refine bsel_of (fun hx => ?_) (fun hx => ?_)
  rotate_left
  · have hx : s1 = [] := List.eq_nil_of_length_eq_zero (by have := of_decide_eq_false hx; omega)
    subst hx
    refine ⟨?_, s2⟩
    rw [hdbl, ← hlp]
    exact ⟨_, rfl, hacc⟩
  obtain ⟨b, y, rfl⟩ : ∃ b y, s1 = b :: y := by
    cases s1 with
    | nil => exact absurd (of_decide_eq_true hx) (by decide)
    | cons b y => exact ⟨b, y, rfl⟩
  rw [loop_step (dblOne_takes _)] at hlp
  have hlc : (b :: y).length < 1000000 := by omega
  have hz := s2.size
  refine ⟨by decide, by simp only [List.length_cons]; omega, boxK rfl (by simp [Value.oneCell']) fun w4 r4 s4 z4 => ?_⟩
  have r4 : Row w4 w2.heap.size 39 ⟨pcell (tx true [b]) (.slice none 0 0)⟩ := r4
  refine ⟨fun n ex w7 => ∃ (x : Pt) (wp : Option Addr) (wc : Nat), Row w7 w2.heap.size 39 ⟨pcell x (.slice wp x.w.length wc)⟩ ∧ SlAt w7 (fun k => w2.heap.size < k) x.w (.slice wp x.w.length wc) ∧ Still w2 w7 ∧ (b = 36 → match dollarF (wpL L) true (b :: y) with
      | .ok p => ex = 0 ∧ p.1 = x ∧ n = (p.2 : Int)
      | .bad k => ex = (k : Int)) ∧ (b ≠ 36 → ex = 0 ∧ n = 1 ∧ x = tx true [b]), ⟨by decide, b, rfl, bsel_of (fun h36 => ?_) (fun h36 => ?_)⟩, ?_⟩
  · have h36 : b = 36 := byte_eq.1 (of_decide_eq_true h36)
    subst h36
    refine (ref_dollar_of hL ih y true hlc).mono ?_
    rintro e5 w5 ⟨⟨x, vw, n, hsl, hm⟩, s5⟩
    obtain ⟨wp, wc, rfl⟩ := hsl.form
    have z5 := s5.size
    have key : ∃ k : Nat, e5 = .returned (.tuple #[pagg x (.slice wp x.w.length wc), .int .i64 (n : Int), .int .i64 (k : Int)]) ∧ (match dollarF (wpL L) true (36 :: y) with
        | .ok p => k = 0 ∧ p = (x, n)
        | .bad j => k = j) := by
      cases hb : dollarF (wpL L) true (36 :: y) with
      | ok p =>
        rw [hb] at hm
        exact ⟨0, hm.1, rfl, hm.2⟩
      | bad j =>
        rw [hb] at hm
        exact ⟨j, hm, rfl⟩
    obtain ⟨k, he, hk⟩ := key
    refine .inl ⟨x.k, x.q, x.t, x.n, x.o, wp, x.w.length, wc, (n : Int), (k : Int), he, stK (r4.still s5) (by simp [pcell]) one6 fun w6 r6 m6 z6 => ⟨x, wp, wc, r6, (hsl.mod m6 fun j hj e => by omega).mono fun j hj => by omega, (s4.trans s5).box (Nat.le_refl _) m6, fun _ => ?_, fun e => absurd rfl e⟩⟩
    cases hb : dollarF (wpL L) true (36 :: y) with
    | ok p =>
      rw [hb] at hk
      obtain ⟨rfl, rfl⟩ := hk
      exact ⟨rfl, rfl, rfl⟩
    | bad j =>
      rw [hb] at hk
      have hk : k = j := hk
      subst hk
      rfl
  · have h36 : ¬ b = 36 := fun e => of_decide_eq_false h36 (byte_eq.2 e)
    exact ⟨tx true [b], none, 0, r4, SlAt.nil _ _ _ _, s4, fun e => absurd e h36, fun _ => ⟨rfl, rfl, rfl⟩⟩
  rintro n ex _ w7 ⟨x, wp, wc, r7, hsl7, s7, hx1, hx2⟩
  have z7 : w2.heap.size < w7.heap.size := r7.lt
  -- the one that is taken
  refine ⟨fun n1 w10 => ∃ (x : Pt) (wp : Option Addr) (wc : Nat), Row w10 w2.heap.size 39 ⟨pcell x (.slice wp x.w.length wc)⟩ ∧ SlAt w10 (fun k => w2.heap.size < k) x.w (.slice wp x.w.length wc) ∧ Still w2 w10 ∧ match dblOne (wpL L) (b :: y) with
      | .ok p => ex = 0 ∧ p.1 = [x] ∧ n1 = (p.2 : Int)
      | .bad k => ex = (k : Int), ⟨fun t w8 => w8 = w7 ∧ (t = true ↔ (b = 92 ∧ (y.head? = some 36 ∨ y.head? = some 96 ∨ y.head? = some 34 ∨ y.head? = some 92))), ⟨by decide, b, rfl, bsel_of (fun h92 => bsel_of (fun h1 => ?_) (fun h1 => ⟨rfl, fun e => (by cases e), fun e => ?_⟩)) (fun h92 => ⟨rfl, fun e => (by cases e), fun e => absurd e.1 fun e => of_decide_eq_false h92 (byte_eq.2 e)⟩)⟩, ?_⟩, ?_⟩
  · have h92 : b = 92 := byte_eq.1 (of_decide_eq_true h92)
    have h1 : 1 < (b :: y).length := by have := of_decide_eq_true h1; omega
    obtain ⟨a, z, rfl⟩ : ∃ a z, y = a :: z := by
      cases y with
      | nil => simp at h1
      | cons a z => exact ⟨a, z, rfl⟩
    have ba : ∀ k : UInt8, decide ((a.toNat : Int) = (k.toNat : Int)) = true ↔ (a :: z : Txt).head? = some k := by
      intro k
      rw [decide_eq_true_eq, List.head?_cons, Option.some.injEq]
      exact byte_eq
    have na : ∀ k : UInt8, decide ((a.toNat : Int) = (k.toNat : Int)) = false → ¬ (a :: z : Txt).head? = some k := by
      intro k hk e
      rw [(ba k).2 e] at hk
      cases hk
    refine ⟨by decide, a, rfl, bsel_of (fun g1 => ⟨rfl, fun _ => ⟨h92, .inl ((ba 36).1 g1)⟩, fun _ => rfl⟩) (fun g1 => ⟨by decide, a, rfl, bsel_of (fun g2 => ⟨rfl, fun _ => ⟨h92, .inr (.inl ((ba 96).1 g2))⟩, fun _ => rfl⟩) (fun g2 => ⟨by decide, a, rfl, bsel_of (fun g3 => ⟨rfl, fun _ => ⟨h92, .inr (.inr (.inl ((ba 34).1 g3)))⟩, fun _ => rfl⟩) (fun g3 => ⟨by decide, a, rfl, rfl, fun e => ⟨h92, .inr (.inr (.inr ((ba 92).1 e)))⟩, fun e => (ba 92).2 (((e.2.resolve_left (na 36 g1)).resolve_left (na 96 g2)).resolve_left (na 34 g3))⟩)⟩)⟩)⟩
  · have h1 : ¬ 1 < (b :: y).length := by have := of_decide_eq_false h1; omega
    have : y = [] := by
      cases y with
      | nil => rfl
      | cons c y => simp at h1
    subst this
    rcases e.2 with e | e | e | e <;> cases e
  · rintro t _ w8 ⟨rfl, ht⟩
    refine bsel_of (fun g => ?_) (fun g => ?_)
    · have hh := ht.1 g
      have h36 : b ≠ 36 := by rw [hh.1]; decide
      obtain ⟨a, z, rfl⟩ : ∃ a z, y = a :: z := by
        cases y with
        | nil => rcases hh.2 with e | e | e | e <;> cases e
        | cons a z => exact ⟨a, z, rfl⟩
      refine ⟨by decide, by decide, by simp only [List.length_cons]; omega, stK r7 (by simp [pcell]) (by simp [Value.oneCell']) fun w9 r9 m9 z9 => ⟨tx true [a], none, 0, r9, SlAt.nil _ _ _ _, s7.box (Nat.le_refl _) m9, ?_⟩⟩
      simp only [dblOne]
      rw [if_neg h36, if_pos hh]
      exact ⟨(hx2 h36).1, rfl, rfl⟩
    · refine ⟨x, wp, wc, r7, hsl7, s7, ?_⟩
      simp only [dblOne]
      by_cases h36 : b = 36
      · rw [if_pos h36]
        have := hx1 h36
        cases hb : dollarF (wpL L) true (b :: y) with
        | ok p =>
          rw [hb] at this
          exact ⟨this.1, by rw [this.2.1], this.2.2⟩
        | bad j =>
          rw [hb] at this
          exact this
      · rw [if_neg h36, if_neg fun e => by rw [ht.2 e] at g; cases g]
        obtain ⟨e1, e2, e3⟩ := hx2 h36
        exact ⟨e1, by rw [e3], e2⟩
  rintro n1 _ w10 ⟨x, wp, wc, r10, hsl10, s10, hx⟩
  cases ho : dblOne (wpL L) (b :: y) with
  | bad k =>
    rw [ho] at hx hlp
    have hk : k ≠ 0 := fun e => dblOne_nz (wpL_nz L) b y (by rw [ho, e])
    have hx : ex = (k : Int) := hx
    subst hx
    refine bsel_of (fun _ => ⟨?_, s2.trans s10⟩) (fun hh => absurd (nf hh) (by omega))
    rw [hdbl, ← hlp]
    rfl
  | ok p =>
    rw [ho] at hx hlp
    obtain ⟨rfl, hp1, rfl⟩ := hx
    have hbe := dblOne_bears (wpL_wt L) _ _ ho
    have hta := dblOne_takes _ _ _ ho
    rw [hp1, wtL_one] at hbe
    have hs12 := s2.trans s10
    have z10 : w2.heap.size < w10.heap.size := r10.lt
    refine bsel_of (fun hh => absurd rfl (nt hh)) (fun _ => ⟨_, _, _, _, _, _, _, _, r10.lget rfl, r10.lget rfl, r10.lget rfl, r10.lget rfl, r10.lget rfl, r10.lget rfl, (ref_Add_spec (x := x) (N := w.heap.size) (hacc.still s10) (by omega) (hsl10.mono fun k hk => by omega) (by omega)).mono ?_⟩)
    rintro _ w11 ⟨v11, rfl, hsl11, s11⟩
    obtain ⟨p11, c11, rfl⟩ := hsl11.form
    have hdl : ((b :: y).drop p.2).length = (b :: y).length - p.2 := List.length_drop
    have hwa := wt_add acc x
    refine .inl ⟨_, _, _, rfl, by omega, by omega, ?_⟩
    rw [Int.toNat_natCast]
    refine ⟨⟨addP acc x, hsl11, hs12.trans s11, by omega, ?_, by omega⟩, by dsimp only; omega⟩
    simp only [Rs.and, hp1, List.foldl_cons, List.foldl_nil] at hlp
    exact hlp
end Go.Proofs.YtckcdbkggaoomaaDoor
