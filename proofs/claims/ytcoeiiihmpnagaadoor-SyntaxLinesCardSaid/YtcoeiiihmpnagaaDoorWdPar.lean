/- The program's parser of words: what a dollar begins. Conditions: texts of fewer than a million bytes; words are parsed one level deeper as wpL says. -/
import Derived.Test.YtcoeiiihmpnagaaDoorWdBr
namespace Go.Proofs.YtcoeiiihmpnagaaDoor
open Go.RowKit Vc
variable {w : World}

/-- What taking a part from the parser's text comes to. -/
def DPost (w : World) (g B : Nat) (l : List Pt) (q : Bool) (d : Int) (s : Txt) (x : Rs (Pt × Nat)) (e : Ending) (w' : World) : Prop := (match x with
  | .ok p => e = .returned (.int .i64 0) ∧ PS w' g B (s.drop p.2) (addP l p.1) q d
  | .bad k => e = .returned (.int .i64 (k : Int)) ∧ ∃ s' v', PRow w' g s' v' q d) ∧ MP g B w w'
theorem unit_bracket {c : UInt8} {r t : Txt} (hc : c = 40 ∨ c = 123) (h : unitD 30 (36 :: c :: r) = some t) : t.length + 3 ≤ (36 :: c :: r).length := by
  rcases hc with rfl | rfl
  · have h : untilD 29 41 r = some t := h
    have := untilD_takes _ _ _ _ h
    simp only [List.length_cons]; omega
  · have h : untilD 29 125 r = some t := h
    have := untilD_takes _ _ _ _ h
    simp only [List.length_cons]; omega
theorem dollarF_group {P : Txt → Rs (List Pt)} {q : Bool} {c : UInt8} {r : Txt} (hc : c = 40 ∨ c = 123) : dollarF P q (36 :: c :: r) = (match unitD 30 (36 :: c :: r) with
    | none => .bad 90
    | some _ => if c = 123 then (bracesF P q (r.take (unitN (36 :: c :: r) - 3))).and fun p => .ok (p, unitN (36 :: c :: r))
      else if 4 < unitN (36 :: c :: r) ∧ (36 :: c :: r)[2]? = some 40 ∧ (36 :: c :: r)[unitN (36 :: c :: r) - 2]? = some 41 then .ok (.mk 3 q (((36 :: c :: r).drop 3).take (unitN (36 :: c :: r) - 5)) [] [] [], unitN (36 :: c :: r))
      else .ok (.mk 2 q (r.take (unitN (36 :: c :: r) - 3)) [] [] [], unitN (36 :: c :: r))) := by
  unfold dollarF
  have hh : ((36 :: c :: r : Txt).drop 1).head? = some 40 ∨ ((36 :: c :: r : Txt).drop 1).head? = some 123 := by
    rcases hc with rfl | rfl
    · exact .inl rfl
    · exact .inr rfl
  rw [if_pos hh]
  cases hu : unitD 30 (36 :: c :: r) with
  | none => rfl
  | some t =>
    have := (unitN_pos hu).1
    rw [this]
    have e : (((36 :: c :: r : Txt).drop 1).head? = some 123) = (c = 123) := by
      show (some c = some 123) = _
      rw [Option.some.injEq]
    simp only [e]
    rfl
theorem take_drop2 (s : Txt) (n a k : Nat) (hk : k ≤ n - a) : ((s.take n).drop a).take k = (s.drop a).take k := by
  rw [List.drop_take, List.take_take, Nat.min_eq_left hk]
theorem get_take {s : Txt} {n i : Nat} (h : i < n) : (s.take n)[i]? = s[i]? := by rw [List.getElem?_take, if_pos h]
theorem byte_some {s : Txt} {i : Nat} {b c : UInt8} (h : s[i]? = some b) : (s[i]? = some c) ↔ ((b.toNat : Int) = (c.toNat : Int)) := by
  rw [h, Option.some.injEq]
  exact byte_eq.symm
set_option maxHeartbeats 1000000 in
theorem group_of {L : Nat} (hL : L ≤ 30) (ih : ParseS L) {g B : Nat} {c : UInt8} {r : Txt} {l : List Pt} {q : Bool} (hs : PS w g B (36 :: c :: r) l q (30 - (L : Int))) (hg : g < B) (hB : B ≤ w.heap.size) (hc : c = 40 ∨ c = 123) (hl : (36 :: c :: r).length < 1000000) (hw : wtL l + 12 * (36 :: c :: r).length < 500000000) :
    Calls Tryd.prog fn_word_parser_group #[.pointer (some ⟨g, 0, none⟩)] w (DPost w g B l q (30 - (L : Int)) (36 :: c :: r) (dollarF (wpL L) q (36 :: c :: r))) := by
  obtain ⟨v, hr, ho⟩ := hs
  refine word_parser_group_calls _ _ _ ?_
  refine ⟨_, hr.text, (Unit_spec _ hl).mono ?_⟩
  rintro _ w1 ⟨rfl, s1⟩
  have hr1 : PRow w1 g _ v q _ := hr.still s1
  have ho1 := ho.still s1
  rw [dollarF_group hc]
  refine .inl ⟨_, rfl, ?_⟩
  cases hu : unitD 30 (36 :: c :: r) with
  | none =>
    have h0 : unitN (36 :: c :: r) = 0 := by unfold unitN; rw [hu]
    rw [h0]
    exact bsel_of (fun _ => ⟨⟨rfl, _, _, hr1⟩, s1.mp⟩) (fun h => absurd (of_decide_eq_false h) (by decide))
  | some t =>
    obtain ⟨h1, h2, h3⟩ := unitN_pos hu
    have h4 := unit_bracket hc hu
    have h5 : 3 ≤ unitN (36 :: c :: r) := by omega
    generalize unitN (36 :: c :: r) = n at h1 h2 h3 h5
    dsimp only
    have e1 : IntKind.i64.wrap ((n : Int) - 1) = ((n - 1 : Nat) : Int) := by rw [wrap_i64 (by omega) (by omega)]; omega
    have e2 : IntKind.i64.wrap ((n : Int) - 2) = ((n - 2 : Nat) : Int) := by rw [wrap_i64 (by omega) (by omega)]; omega
    have htn : ((36 :: c :: r).take n).length = n := by rw [List.length_take]; omega
    refine bsel_of (fun h => absurd (of_decide_eq_true h) (by omega)) (fun _ => ⟨_, hr1.text, by omega, by omega, by decide, c, ?_, ?_⟩)
    · rw [Int.toNat_natCast]
      rw [get_take (show Int.toNat 1 < n by show 1 < n; omega)]
      rfl
    rw [Int.toNat_natCast, e1, e2]
    have zz := s1.size
    -- a part of its own is put
    have put : ∀ (x : Pt) (w6 : World), w6 = w1 → x.q = false → x.w = [] → x.wt ≤ 12 * (36 :: c :: r).length + 20 → Calls Tryd.prog fn_word_parser_put #[.pointer (some ⟨g, 0, none⟩), pagg x (.slice none 0 0), .int .i64 (n : Int)] w6 (fun ed w7 => (ed = .returned (.tuple #[]) ∧ DPost w g B l q (30 - (L : Int)) (36 :: c :: r) (.ok (.mk x.k q x.t x.n x.o x.w, n)) (.returned (.int .i64 0)) w7) ∨ (∃ ch, ed = .panicked ch ∧ DPost w g B l q (30 - (L : Int)) (36 :: c :: r) (.ok (.mk x.k q x.t x.n x.o x.w, n)) (.panicked ch) w7)) := by
      rintro x _ rfl hq hxw hwt
      refine (put_spec (x := x) (n := n) hr1 ho1 hg (by omega) (by rw [hxw]; exact SlAt.nil _ _ _ _) h3 (by omega)).mono ?_
      rintro _ w7 ⟨rfl, h7, m7⟩
      have e : setq x q = .mk x.k q x.t x.n x.o x.w := by rw [setq, hq, Bool.false_or]
      rw [e] at h7
      exact .inl ⟨rfl, ⟨rfl, h7⟩, s1.mp.trans m7⟩
    refine bsel_of (fun h => ?_) (fun h => ?_)
    · have hc3 : c = 123 := byte_eq.1 (of_decide_eq_true h)
      subst hc3
      have hin : ((((36 :: 123 :: r : Txt).take n).drop (Int.toNat 2)).take (Int.toNat ((n - 1 : Nat) : Int) - Int.toNat 2)) = r.take (n - 3) := by
        rw [Int.toNat_natCast]
        show ((((36 :: 123 :: r : Txt).take n).drop 2).take (n - 1 - 2)) = _
        rw [take_drop2 _ _ _ _ (by omega), show n - 1 - 2 = n - 3 by omega]
        rfl
      have hil : (r.take (n - 3)).length ≤ r.length := by rw [List.length_take]; omega
      simp only [List.length_cons] at hl hw
      refine ⟨by decide, by omega, by omega, ?_⟩
      rw [hin, if_pos rfl]
      refine (braces_of hL ih hr1 (r.take (n - 3)) (by omega)).mono ?_
      rintro e2 w2 ⟨⟨x, vw, hsl, hwt, hm⟩, s2⟩
      obtain ⟨wp, wc, rfl⟩ := hsl.form
      have hr2 : PRow w2 g _ v q _ := hr1.still s2
      have ho2 := ho1.still s2
      have zz2 := s2.size
      -- the part is put, whatever the number
      have go : ∀ (k : Nat) (Q : Ending → World → Prop), (∀ w5, PS w5 g B ((36 :: 123 :: r).drop n) (addP l (setq x q)) q (30 - (L : Int)) → MP g B w w5 → Q (.returned (.int .i64 (k : Int))) w5) → e2 = .returned (.tuple #[pagg x (.slice wp x.w.length wc), .int .i64 (k : Int)]) →
          (∃ rKind : Int, ∃ rQuoted : Bool, ∃ rText : List UInt8, ∃ rName : List UInt8, ∃ rOp : List UInt8, ∃ (rWord : Option Addr) (rWordL rWordC : Nat), ∃ r1 : Int, e2 = .returned (.tuple #[(.agg #[(.int .i64 rKind), (.bool rQuoted), (.string (S rText)), (.string (S rName)), (.string (S rOp)), (.slice rWord rWordL rWordC)]), (.int .i64 r1)]) ∧ letW (w2.alloc (.cells #[(.int .i64 0), (.bool false), (.string (S ([] : List UInt8))), (.string (S ([] : List UInt8))), (.string (S ([] : List UInt8))), (.slice none 0 0)] 56)) (fun (w3 : World) => stCells (Addr.mk w2.heap.size 0 none) (fun (w4 : World) => ∃ vKind : Int, ∃ vQuoted : Bool, ∃ vText : List UInt8, ∃ vName : List UInt8, ∃ vOp : List UInt8, ∃ (vWord : Option Addr) (vWordL vWordC : Nat), w4.cell? (Addr.mk w2.heap.size 0 none) = some (.int .i64 vKind) ∧ w4.cell? (Addr.mk w2.heap.size 1 none) = some (.bool vQuoted) ∧ w4.cell? (Addr.mk w2.heap.size 2 none) = some (.string (S vText)) ∧ w4.cell? (Addr.mk w2.heap.size 3 none) = some (.string (S vName)) ∧ w4.cell? (Addr.mk w2.heap.size 4 none) = some (.string (S vOp)) ∧ w4.cell? (Addr.mk w2.heap.size 5 none) = some (.slice vWord vWordL vWordC) ∧ Calls Tryd.prog fn_word_parser_put #[(.pointer (some (Addr.mk g 0 none))), (.agg #[(.int .i64 vKind), (.bool vQuoted), (.string (S vText)), (.string (S vName)), (.string (S vOp)), (.slice vWord vWordL vWordC)]), (.int .i64 (n : Int))] w4 (fun ed2 w5 => (ed2 = .returned (.tuple #[]) ∧ Q (.returned (.int .i64 r1)) w5) ∨ (∃ ch2, ed2 = .panicked ch2 ∧ Q (.panicked ch2) w5))) 0 [(.int .i64 rKind), (.bool rQuoted), (.string (S rText)), (.string (S rName)), (.string (S rOp)), (.slice rWord rWordL rWordC)] w3)) := by
        intro k Q hQ he
        refine ⟨x.k, x.q, x.t, x.n, x.o, wp, x.w.length, wc, (k : Int), he, boxK rfl one6 fun w4 r4 s4 z4 => ⟨x.k, x.q, x.t, x.n, x.o, wp, x.w.length, wc, r4.lget rfl, r4.lget rfl, r4.lget rfl, r4.lget rfl, r4.lget rfl, r4.lget rfl, ?_⟩⟩
        refine (put_spec (x := x) (vw := .slice wp x.w.length wc) (n := n) (hr2.still s4) (ho2.still s4) hg (by omega) ((hsl.still s4).mono fun j hj => ⟨by have := hj.1; omega, by have := hj.2; omega, fun e => by have := (ho1.ownLt e).2; have := hj.1; omega⟩) h3 (by omega)).mono ?_
        rintro _ w5 ⟨rfl, h5, m5⟩
        exact .inl ⟨rfl, hQ w5 h5 (((s1.trans s2).trans s4).mp.trans m5)⟩
      cases hb : bracesF (wpL L) q (r.take (n - 3)) with
      | ok p =>
        rw [hb] at hm
        obtain ⟨he, hp⟩ := hm
        exact .inl (go 0 _ (fun w5 h5 m5 => ⟨⟨rfl, by rw [← hp]; exact h5⟩, m5⟩) he)
      | bad k =>
        rw [hb] at hm
        refine .inl (go k _ (fun w5 h5 m5 => ⟨⟨rfl, ?_⟩, m5⟩) hm)
        obtain ⟨v5, h5, _⟩ := h5
        exact ⟨_, _, h5⟩
    · have hc3 : ¬ c = 123 := fun e => of_decide_eq_false h (byte_eq.2 e)
      rw [if_neg hc3]
      refine ⟨fun b w6 => w6 = w1 ∧ (b = true ↔ (4 < n ∧ (36 :: c :: r)[2]? = some 40 ∧ (36 :: c :: r)[n - 2]? = some 41)), bsel_of (fun h6 => ?_) (fun h6 => ⟨rfl, fun e => (by cases e), fun e => ?_⟩), ?_⟩
      · have h6 : 4 < n := by have := of_decide_eq_true h6; omega
        obtain ⟨b1, hb1⟩ : ∃ b1, (36 :: c :: r)[2]? = some b1 := ⟨_, List.getElem?_eq_getElem (by omega)⟩
        obtain ⟨b2, hb2⟩ : ∃ b2, (36 :: c :: r)[n - 2]? = some b2 := ⟨_, List.getElem?_eq_getElem (by omega)⟩
        refine ⟨by decide, b1, by rw [get_take (show Int.toNat 2 < n by show 2 < n; omega)]; exact hb1, bsel_of (fun h7 => ⟨by omega, b2, by rw [Int.toNat_natCast, get_take (by omega)]; exact hb2, rfl, ?_⟩) (fun h7 => ⟨rfl, fun e => (by cases e), fun e => ?_⟩)⟩
        · rw [decide_eq_true_eq, byte_some hb1, byte_some hb2]
          exact ⟨fun e => ⟨h6, of_decide_eq_true h7, e⟩, fun e => e.2.2⟩
        · rw [byte_some hb1] at e
          exact absurd e.2.1 (of_decide_eq_false h7)
      · have := of_decide_eq_false h6
        omega
      · rintro b _ w6 ⟨rfl, hb⟩
        refine bsel_of (fun h8 => ?_) (fun h8 => ?_)
        · have h9 := hb.1 h8
          rw [if_pos h9]
          have ht : ((((36 :: c :: r : Txt).take n).drop (Int.toNat 3)).take (Int.toNat ((n - 2 : Nat) : Int) - Int.toNat 3)) = ((36 :: c :: r).drop 3).take (n - 5) := by
            rw [Int.toNat_natCast]
            show ((((36 :: c :: r : Txt).take n).drop 3).take (n - 2 - 3)) = _
            rw [take_drop2 _ _ _ _ (by omega), show n - 2 - 3 = n - 5 by omega]
          rw [ht]
          exact ⟨by decide, by omega, by omega, put (.mk 3 false (((36 :: c :: r).drop 3).take (n - 5)) [] [] []) w6 rfl rfl rfl (by simp only [Pt.wt, wtL, List.length_nil, List.length_take]; omega)⟩
        · rw [if_neg fun h9 => by rw [hb.2 h9] at h8; cases h8]
          have ht : ((((36 :: c :: r : Txt).take n).drop (Int.toNat 2)).take (Int.toNat ((n - 1 : Nat) : Int) - Int.toNat 2)) = r.take (n - 3) := by
            rw [Int.toNat_natCast]
            show ((((36 :: c :: r : Txt).take n).drop 2).take (n - 1 - 2)) = _
            rw [take_drop2 _ _ _ _ (by omega), show n - 1 - 2 = n - 3 by omega]
            rfl
          rw [ht]
          exact ⟨by decide, by omega, by omega, put (.mk 2 false (r.take (n - 3)) [] [] []) w6 rfl rfl rfl (by simp only [Pt.wt, wtL, List.length_nil, List.length_take]; omega)⟩
theorem special_has (c : UInt8) : ([48, 49, 50, 51, 52, 53, 54, 55, 56, 57, 35, 63, 64, 42] : Txt).contains c = isSpec c := by
  have h : ∀ n : Nat, n < 256 → ([48, 49, 50, 51, 52, 53, 54, 55, 56, 57, 35, 63, 64, 42] : Txt).contains (UInt8.ofNat n) = isSpec (UInt8.ofNat n) := by decide +kernel
  have := h c.toNat c.toNat_lt
  rwa [UInt8.ofNat_toNat] at this
theorem pf_one (x : UInt8) (r : Txt) : pf [x] r = decide (r.head? = some x) := by
  rw [pf_isPrefixOf]
  cases r with
  | nil => rfl
  | cons c r =>
    rw [Bool.eq_iff_iff]
    simp [List.isPrefixOf]
    exact eq_comm
set_option maxHeartbeats 1000000 in
theorem dollar_of {L : Nat} (hL : L ≤ 30) (ih : ParseS L) {g B : Nat} {r : Txt} {l : List Pt} {q : Bool} (hs : PS w g B (36 :: r) l q (30 - (L : Int))) (hg : g < B) (hB : B ≤ w.heap.size) (hl : (36 :: r).length < 1000000) (hw : wtL l + 12 * (36 :: r).length < 500000000) :
    Calls Tryd.prog fn_word_parser_dollar #[.pointer (some ⟨g, 0, none⟩)] w (DPost w g B l q (30 - (L : Int)) (36 :: r) (dollarF (wpL L) q (36 :: r))) := by
  have hs' := hs
  obtain ⟨v, hr, ho⟩ := hs
  simp only [List.length_cons] at hl hw
  refine word_parser_dollar_calls _ _ _ ?_
  have e1 : (36 :: r : Txt).drop (Int.toNat 1) = r := rfl
  refine ⟨_, hr.text, by decide, by simp only [List.length_cons]; omega, ?_⟩
  rw [e1]
  refine (Name_spec r (by omega)).mono ?_
  rintro _ w1 ⟨rfl, s1⟩
  have hnl := nameN_le r
  -- what the name is
  refine .inl ⟨_, rfl, fun nm w4 => nm = r.take (if 0 < nameN r then nameN r else specN r) ∧ Still w w4, ⟨fun b w3 => (b = true ↔ nameN r = 0 ∧ 0 < specN r) ∧ Still w w3, bsel_of (fun h => bsel_of (fun h2 => ?_) (fun h2 => ?_)) (fun h => ?_), ?_⟩, ?_⟩
  · have h : r.take (nameN r) = [] := of_decide_eq_true h
    rw [take_nil hnl] at h
    have h2 : ¬ r = [] := nt h2
    obtain ⟨c, y, rfl⟩ := List.exists_cons_of_ne_nil h2
    refine ⟨by decide, c, rfl, (index_spec _ c).mono ?_⟩
    rintro _ w2 ⟨⟨n, rfl, hn⟩, rfl⟩
    rw [special_has] at hn
    refine .inl ⟨_, rfl, ?_, s1⟩
    rw [hn]
    simp only [specN]
    refine ⟨fun e => ⟨h, by rw [if_pos e]; decide⟩, fun e => ?_⟩
    have := e.2
    split at this
    · assumption
    · omega
  · have h2 : r = [] := nf h2
    subst h2
    exact ⟨⟨fun e => (by cases e), fun e => absurd e.2 (by decide)⟩, s1⟩
  · have h : ¬ r.take (nameN r) = [] := of_decide_eq_false h
    rw [take_nil hnl] at h
    exact ⟨⟨fun e => (by cases e), fun e => absurd e.1 h⟩, s1⟩
  · rintro b _ w3 ⟨hb, s3⟩
    refine bsel_of (fun h => ?_) (fun h => ?_)
    · have hh := hb.1 h
      have h1 := specN_one r
      have h2 := specN_le r
      refine ⟨by decide, by omega, ?_, s3⟩
      rw [if_neg (by omega), show specN r = 1 by omega]
      rfl
    · refine ⟨?_, s3⟩
      by_cases h0 : 0 < nameN r
      · rw [if_pos h0]
      · have : ¬ 0 < specN r := fun e => by rw [hb.2 ⟨by omega, e⟩] at h; cases h
        rw [if_neg h0]
        congr 1
        omega
  rintro _ _ w4 ⟨rfl, s4⟩
  refine ⟨fun b w7 => (b = true ↔ r.head? = some 40 ∨ r.head? = some 123) ∧ Still w w7, (hasPrefix_spec r [40]).mono ?_, ?_⟩
  · rintro _ w5 ⟨rfl, rfl⟩
    rw [pf_one]
    refine .inl ⟨_, rfl, bsel_of (fun h => ⟨?_, s4⟩) (fun h => (hasPrefix_spec r [123]).mono ?_)⟩
    · rw [h]
      exact ⟨fun _ => .inl (of_decide_eq_true h), fun _ => rfl⟩
    · rintro _ w6 ⟨rfl, rfl⟩
      rw [pf_one]
      refine .inl ⟨_, rfl, ?_, s4⟩
      rw [decide_eq_true_eq]
      exact ⟨.inr, fun e => e.resolve_left (of_decide_eq_false h)⟩
  rintro b _ w7 ⟨hb, s7⟩
  have hz := s7.size
  refine bsel_of (fun h => ?_) (fun h => ?_)
  · have hh := hb.1 h
    obtain ⟨c, y, rfl⟩ : ∃ c y, r = c :: y := by
      cases r with
      | nil => rcases hh with e | e <;> cases e
      | cons c y => exact ⟨c, y, rfl⟩
    have hc : c = 40 ∨ c = 123 := by simpa using hh
    refine (group_of hL ih (hs'.still s7) hg (by omega) hc (by simp only [List.length_cons] at hl ⊢; omega) (by simp only [List.length_cons] at hw ⊢; omega)).mono ?_
    rintro e8 w8 ⟨h8, m8⟩
    cases hd : dollarF (wpL L) q (36 :: c :: y) with
    | ok p =>
      rw [hd] at h8
      obtain ⟨rfl, h9⟩ := h8
      exact .inl ⟨_, rfl, ⟨rfl, h9⟩, s7.mp.trans m8⟩
    | bad k =>
      rw [hd] at h8
      obtain ⟨rfl, h9⟩ := h8
      exact .inl ⟨_, rfl, ⟨rfl, h9⟩, s7.mp.trans m8⟩
  have hno : ¬ (r.head? = some 40 ∨ r.head? = some 123) := fun e => by rw [hb.2 e] at h; cases h
  have hr7 : PRow w7 g _ v q _ := hr.still s7
  have ho7 := ho.still s7
  have put : ∀ (x : Pt) (n : Nat), x.q = false → x.w = [] → x.wt ≤ 12 * (r.length + 1) + 20 → n ≤ r.length + 1 → dollarF (wpL L) q (36 :: r) = .ok (.mk x.k q x.t x.n x.o x.w, n) → Calls Tryd.prog fn_word_parser_put #[.pointer (some ⟨g, 0, none⟩), pagg x (.slice none 0 0), .int .i64 (n : Int)] w7 (fun ed w9 => (ed = .returned (.tuple #[]) ∧ DPost w g B l q (30 - (L : Int)) (36 :: r) (dollarF (wpL L) q (36 :: r)) (.returned (.int .i64 0)) w9) ∨ (∃ ch, ed = .panicked ch ∧ DPost w g B l q (30 - (L : Int)) (36 :: r) (dollarF (wpL L) q (36 :: r)) (.panicked ch) w9)) := by
    intro x n hq hxw hwt hn hd
    refine (put_spec (x := x) (n := n) hr7 ho7 hg (by omega) (by rw [hxw]; exact SlAt.nil _ _ _ _) (by simp only [List.length_cons]; omega) (by omega)).mono ?_
    rintro _ w9 ⟨rfl, h9, m9⟩
    rw [hd]
    have e : setq x q = .mk x.k q x.t x.n x.o x.w := by rw [setq, hq, Bool.false_or]
    rw [e] at h9
    exact .inl ⟨rfl, ⟨rfl, h9⟩, s7.mp.trans m9⟩
  have hd0 : dollarF (wpL L) q (36 :: r) = if 0 < nameN r then .ok (.mk 1 q [] (r.take (nameN r)) [] [], nameN r + 1) else if 0 < specN r then .ok (.mk 1 q [] (r.take 1) [] [], 2) else .ok (.mk 0 q [36] [] [] [], 1) := by
    unfold dollarF
    simp only [List.drop_succ_cons, List.drop_zero]
    rw [if_neg hno]
  have hsp1 := specN_one r
  have hspl := specN_le r
  refine bsel_of (fun h5 => ?_) (fun h5 => ?_)
  · have h5 : ¬ r.take (if 0 < nameN r then nameN r else specN r) = [] := nt h5
    rw [take_nil (by split <;> omega)] at h5
    have hlen : (r.take (if 0 < nameN r then nameN r else specN r)).length = (if 0 < nameN r then nameN r else specN r) := by
      rw [List.length_take]
      split <;> omega
    rw [hlen, show IntKind.i64.wrap (1 + ((if 0 < nameN r then nameN r else specN r : Nat) : Int)) = (((if 0 < nameN r then nameN r else specN r) + 1 : Nat) : Int) by rw [wrap_i64 (by omega) (by split <;> omega)]; omega]
    by_cases h0 : 0 < nameN r
    · rw [if_pos h0] at h5 ⊢
      exact put (.mk 1 false [] (r.take (nameN r)) [] []) (nameN r + 1) rfl rfl (by simp only [Pt.wt, wtL, List.length_nil, List.length_take]; omega) (by omega) (by rw [hd0, if_pos h0]; rfl)
    · rw [if_neg h0] at h5 ⊢
      have h6 : specN r = 1 := by omega
      rw [h6]
      exact put (.mk 1 false [] (r.take 1) [] []) 2 rfl rfl (by simp only [Pt.wt, wtL, List.length_nil, List.length_take]; omega) (by omega) (by rw [hd0, if_neg h0, if_pos (by omega)]; rfl)
  · have h5 : r.take (if 0 < nameN r then nameN r else specN r) = [] := nf h5
    rw [take_nil (by split <;> omega)] at h5
    have h6 : ¬ 0 < nameN r := fun e => by rw [if_pos e] at h5; omega
    rw [if_neg h6] at h5
    exact put (.mk 0 false [36] [] [] []) 1 rfl rfl (by simp only [Pt.wt, wtL, List.length_nil, List.length_cons]; omega) (by omega) (by rw [hd0, if_neg h6, if_neg (by omega)]; rfl)
end Go.Proofs.YtcoeiiihmpnagaaDoor
