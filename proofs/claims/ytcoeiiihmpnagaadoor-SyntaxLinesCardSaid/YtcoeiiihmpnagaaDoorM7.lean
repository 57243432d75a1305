/- Texts of one proof, one behind the other. Conditions: as each theorem names them. -/
import Derived.Test.YtcoeiiihmpnagaaDoorM6
namespace Go.Proofs.YtcoeiiihmpnagaaDoor
open Go.RowKit Vc
variable {w : World}

theorem isW_peek (s : Ts) : decide (((((s[0]?).getD (2, [])).1 : Nat) : Int) = 0) = isW s := by
  cases s with
  | nil => rfl
  | cons x r =>
    obtain ⟨k, t⟩ := x
    show decide ((k : Int) = 0) = decide (k = 0)
    exact decide_eq_decide.2 (by omega)
theorem each_of {L : Nat} (hL : L < 100) (hc : CmdS L) {g : Nat} {x : Nat × Txt} {r0 : Ts} (h : Pz w g (x :: r0)) (hb : TB (x :: r0)) : Calls Tryd.prog fn_syntax_parser_each #[.pointer (some ⟨g, 0, none⟩), .int .i64 (31 - ((L + 1 : Nat) : Int))] w (SyC w g (eachF (lvS L).1 r0)) := by
  refine syntax_parser_each_calls _ _ _ _ ?_
  have hg := h.lt
  have he := (lvS_eats L).1
  have hbr := hb.tail
  refine allocK fun w1 r1 s1 z1 => (next_spec (h.still s1)).mono ?_
  rintro _ w2 ⟨rfl, o2, h2⟩
  have hz2 := o2.size
  have o12 := s1.only.tr o2
  refine .inl ⟨_, _, rfl, fun w8 => Still w2 w8 ∧ ∃ t r, r0 = (0, t) :: r ∧ isName t = true, (peek_spec h2 0).mono ?_, ?_⟩
  · rintro _ w3 ⟨rfl, s3⟩
    refine .inl ⟨_, _, rfl, ?_⟩
    rw [isW_peek]
    refine bsel_of (fun hx => ?_) (fun hx => ?_)
    · obtain ⟨t, r, rfl⟩ : ∃ t r, r0 = (0, t) :: r := by
        match r0, hx with
        | (k, t) :: r, hx => exact ⟨t, r, by rw [show k = 0 from of_decide_eq_true hx]⟩
      refine (peek_spec (h2.still s3) 0).mono ?_
      rintro _ w4 ⟨rfl, s4⟩
      refine .inl ⟨_, _, rfl, (IsName_spec t hbr.head.1).mono ?_⟩
      rintro _ w5 ⟨rfl, s5⟩
      have s25 := (s3.trans s4).trans s5
      refine .inl ⟨_, rfl, wantK (fun ht => ⟨s25, t, r, rfl, ht⟩) (fun ht => ⟨o12.tr s25.only, ?_⟩)⟩
      have : eachF (lvS L).1 ((0, t) :: r) = .bad 100 := by
        simp only [eachF]
        rw [if_neg (by rintro ⟨_, hn⟩; rw [show isName t = false from ht] at hn; cases hn)]
      rw [this]
    · refine wantK (fun hf => by cases hf) (fun _ => ⟨o12.tr s3.only, ?_⟩)
      have : eachF (lvS L).1 r0 = .bad 100 := by
        match r0, hx with
        | [], _ => rfl
        | (k, t) :: r, hx =>
          simp only [eachF]
          rw [if_neg (fun hk => of_decide_eq_false hx hk.1)]
      rw [this]
  rintro _ w8 ⟨s8, t, r, rfl, hname⟩
  have hlv : eachF (lvS L).1 ((0, t) :: r) = if isT 0 tIn (linesF r) = true then (manyF wordsS [] (linesF r).tail).and fun x => if isT 1 tSemi x.2 = true ∨ isT 2 [10] x.2 = true then eachE (lvS L).1 t x.1 [tIn] x.2 else .bad 100
      else eachE (lvS L).1 t [] [] (linesF r) := by
    simp only [eachF]
    rw [if_pos ⟨trivial, hname⟩]
  rw [hlv]
  clear hlv
  have hz8 := s8.size
  refine (next_spec (h2.still s8)).mono ?_
  rintro _ w9 ⟨rfl, o9, h9⟩
  have hz9 := o9.size
  refine .inl ⟨_, _, rfl, allocK fun w10 r10 s10 z10 => stK r10 (by simp) (by simp [Value.oneCell']) fun w11 r11 m11 z11 => ?_⟩
  have r11 : Row w11 w9.heap.size 32 ⟨ncell (.mk 8 false t [] [] [] [] []) (.slice none 0 0) (.slice none 0 0) (.slice none 0 0) (.slice none 0 0) (.slice none 0 0)⟩ := r11
  have res11 : Row w11 w.heap.size 32 ⟨zcell⟩ := ((((r1.mod o2 (by omega)).still s8).mod o9 (by omega)).still s10).mod m11 (by omega)
  have o11 : Only g w w11 := Mod.trans (((o12.tr s8.only).tr o9).tr s10.only) m11 (fun _ h => h) (fun i hi e => by omega)
  have h11 := (h9.still s10).mod m11 (by intro k hk e; omega)
  have nb11 := NB.mk0 (B := w.heap.size + 1) r11 o11 hg (by omega) (by omega) ⟨rfl, rfl, rfl, rfl, rfl⟩
  generalize hgn : w9.heap.size = gn at *
  have hbr2 := hbr.tail
  refine (lines_spec h11).mono ?_
  rintro _ w12 ⟨rfl, o12', h12⟩
  have nb12 := nb11.on o12'
  have res12 := res11.mod o12' (by omega)
  have hbl := hbr2.suf (linesF_suf r)
  generalize linesF r = l0 at *
  generalize hres : (if isT 0 tIn l0 = true then (manyF wordsS [] l0.tail).and fun x => if isT 1 tSemi x.2 = true ∨ isT 2 [10] x.2 = true then eachE (lvS L).1 t x.1 [tIn] x.2 else .bad 100 else eachE (lvS L).1 t [] [] l0) = res
  refine .inl ⟨rfl, fun w28 => ∃ s9 ws os vw vo X, NB w w28 g gn (w.heap.size + 1) X (.mk 8 false t ws [] [] os []) vw (.slice none 0 0) (.slice none 0 0) vo (.slice none 0 0) ∧ Row w28 w.heap.size 32 ⟨zcell⟩ ∧ Pz w28 g s9 ∧ s9 <:+ l0 ∧ res = eachE (lvS L).1 t ws os s9, (take_spec h12 0 (t := tIn) (by decide)).mono ?_, ?_⟩
  · rintro _ w13 ⟨rfl, o13, h13⟩
    have nb13 := nb12.on o13
    have res13 := res12.mod o13 (by omega)
    refine .inl ⟨_, rfl, bsel_of (fun hx => ?_) (fun hx => ?_)⟩
    rotate_left
    · rw [if_neg (by rw [hx]; decide)] at h13 hres
      exact ⟨l0, [], [], _, _, _, nb13, res13, h13, List.suffix_refl _, hres.symm⟩
    rw [if_pos hx] at h13 hres
    refine setO_spec (y := tIn) nb13 fun vo14 w15 X15 nb15 m15 => ?_
    have nb15 : NB w w15 g gn (w.heap.size + 1) X15 (.mk 8 false t [] [] [] [tIn] []) (.slice none 0 0) (.slice none 0 0) (.slice none 0 0) vo14 (.slice none 0 0) := nb15
    have res15 := res13.mod m15 (by omega)
    have h15 := h13.mod m15 (by intro k hk e; omega)
    have hl0 := hbl.1
    have htl := isT_len hx
    refine ⟨fun w16 => ∃ s9 ws vw X, NB w w16 g gn (w.heap.size + 1) X (.mk 8 false t ws [] [] [tIn] []) vw (.slice none 0 0) (.slice none 0 0) vo14 (.slice none 0 0) ∧ Row w16 w.heap.size 32 ⟨zcell⟩ ∧ Pz w16 g s9 ∧ s9 <:+ l0 ∧ ws.length + s9.length ≤ l0.length ∧ manyF wordsS ws s9 = manyF wordsS [] l0.tail, pzLen g, ⟨l0.tail, [], _, _, nb15, res15, h15, tail_suf _, by simp only [List.length_nil]; omega, rfl⟩, ?_⟩
    rintro _ w16 ⟨s9, ws, vw, X, nb16, res16, h16, hsf9, hlen, heq⟩
    have hm := manyF_step wordsS_sinks ws s9
    rw [heq] at hm
    have hb9 := hbl.suf hsf9
    refine (peek_spec h16 0).mono ?_
    rintro _ w17 ⟨rfl, s17⟩
    have nb17 := nb16.still s17
    have res17 := res16.still s17
    have h17 := h16.still s17
    refine .inl ⟨_, _, rfl, ?_⟩
    rw [isW_peek]
    refine bsel_of (fun hy => ?_) (fun hy => ?_)
    · have hst : wordsS ws s9 = (partsF s9).and fun x => .ok (.inl (ws ++ [x.1], x.2)) := by unfold wordsS; rw [if_pos hy]
      rw [hst] at hm
      clear hst
      refine wordK_spec nb17 h17 hb9 (show ws.length < 1000000 by omega) (fun k w' hr o => ⟨o, ?_⟩) (fun z vw18 w18 X18 hr nb18 h18 m18 => ?_)
      · rw [hr] at hm
        have hm : manyF wordsS [] l0.tail = .bad k := hm
        rw [hm] at hres
        rw [← hres]
        rfl
      rw [hr] at hm
      have hz1 := partsF_eats _ _ hr
      have hz2 := partsF_suf _ _ hr
      exact ⟨⟨z.2, ws ++ [z.1], vw18, X18, nb18, res17.mod m18 (by intro e; omega), h18, hz2.trans hsf9, by simp only [List.length_append, List.length_cons, List.length_nil]; omega, hm.symm⟩, by rw [h18.len, h16.len]; omega⟩
    · have hst : wordsS ws s9 = .ok (.inr (ws, s9)) := by unfold wordsS; rw [if_neg (by rw [hy]; decide)]
      rw [hst] at hm
      have hm : manyF wordsS [] l0.tail = .ok (ws, s9) := hm
      rw [hm, Rs.ok_and] at hres
      clear hst hm heq
      refine allocK fun w19 r19 s19 z19 => (at_spec (h17.still s19) 1 (StrsAt.row (l := [tSemi]) r19) (by decide)).mono ?_
      rintro _ w20 ⟨rfl, s20⟩
      rw [atB_one (by decide)]
      have s1720 := s19.trans s20
      have nb20 := nb17.still s1720
      have res20 := res17.still s1720
      have h20 := h17.still s1720
      refine .inl ⟨_, rfl, bsel_of (fun hx1 => ?_) (fun hx1 => ?_)⟩
      · rw [if_pos (.inl hx1)] at hres
        exact wantK (fun _ => ⟨s9, ws, [tIn], vw, vo14, X, nb20, res20, h20, hsf9, hres.symm⟩) (fun hf => by cases hf)
      · refine allocK fun w21 r21 s21 z21 => (at_spec (h20.still s21) 2 (StrsAt.row (l := [[10]]) r21) (by decide)).mono ?_
        rintro _ w22 ⟨rfl, s22⟩
        rw [atB_one (by decide)]
        have s2022 := s21.trans s22
        have nb22 := nb20.still s2022
        refine .inl ⟨_, rfl, wantK (fun ht => ?_) (fun ht => ⟨nb22.only, ?_⟩)⟩
        · rw [if_pos (.inr ht)] at hres
          exact ⟨s9, ws, [tIn], vw, vo14, X, nb22, res20.still s2022, h20.still s2022, hsf9, hres.symm⟩
        · rw [if_neg (by rw [hx1, ht]; decide)] at hres
          rw [← hres]
  · rintro _ w28 ⟨s9, ws, os, vw, vo, X, nb28, res28, h28, hsf9, rfl⟩
    clear hres
    have hlv : eachE (lvS L).1 t ws os s9 = (bodyF (lvS L).1 (linesF (if isT 1 tSemi s9 = true then s9.tail else s9))).and fun b => .ok (.mk 8 false t ws [] [] os [b.1], b.2) := rfl
    rw [hlv]
    clear hlv
    refine (take_spec h28 1 (t := tSemi) (by decide)).mono ?_
    rintro _ w29 ⟨rfl, o29, h29⟩
    have hb29 : TB (if isT 1 tSemi s9 = true then s9.tail else s9) := (hbl.suf hsf9).suf (ite_suf _ s9)
    generalize (if isT 1 tSemi s9 = true then s9.tail else s9) = s10 at *
    refine .inl ⟨_, rfl, (lines_spec h29).mono ?_⟩
    rintro _ w30 ⟨rfl, o30, h30⟩
    have nb30 := (nb28.on o29).on o30
    have res30 := (res28.mod o29 (by omega)).mod o30 (by omega)
    refine .inl ⟨rfl, (body_of hL hc h30 (hb29.suf (linesF_suf _))).mono ?_⟩
    rintro e31 w31 ⟨o31, hp⟩
    have nb31 := nb30.on o31
    cases hr : bodyF (lvS L).1 (linesF s10) with
    | bad k =>
      rw [hr] at hp
      exact .inr ⟨_, hp, nb31.only, rfl⟩
    | ok z =>
    rw [hr] at hp
    obtain ⟨cs, rfl, hnd, h31⟩ := hp
    obtain ⟨pw, cw, pa, ca, pr, cr, po, co, pk, ck, rfl, _⟩ := hnd.outs
    refine .inl ⟨_, _, _, _, _, _, _, _, _, _, _, _, _, _, _, _, _, _, rfl, setK_spec nb30 o31 hnd fun vk12 w32 X12 nb32 m32 => ?_⟩
    exact nExit_spec5 nb32 ((res30.mod o31 (by omega)).mod m32 (by intro e; omega)) (Nat.lt_succ_self _) fun w' cs' m' o' hn' h5' => ⟨o', _, rfl, hn', (h31.mod m32 (by intro k hk e; omega)).mod m' (fun j hj e => by omega), h5'⟩
theorem function_of {L : Nat} (hL : L < 100) (hc : CmdS L) {g : Nat} {x : Nat × Txt} {y z : Nat × Txt} {r : Ts} (h : Pz w g (x :: y :: z :: r)) (hb : TB (x :: y :: z :: r)) : Calls Tryd.prog fn_syntax_parser_function #[.pointer (some ⟨g, 0, none⟩), .int .i64 (31 - ((L + 1 : Nat) : Int))] w (SyP w g (defF (lvS L).1 (x :: y :: z :: r))) := by
  refine syntax_parser_function_calls _ _ _ _ ?_
  have hg := h.lt
  have hlv : defF (lvS L).1 (x :: y :: z :: r) = ((lvS L).1 (linesF r)).and fun u => if 4 ≤ u.1.k ∧ u.1.k ≤ 9 then .ok (.mk 11 false x.2 [] [] [] [] [u.1], u.2) else .bad 100 := rfl
  rw [hlv]
  clear hlv
  refine allocK fun w1 r1 s1 z1 => (next_spec (h.still s1)).mono ?_
  rintro _ w2 ⟨rfl, o2, h2⟩
  have hz2 := o2.size
  refine .inl ⟨_, _, rfl, allocK fun w3 r3 s3 z3 => stK r3 (by simp) (by simp [Value.oneCell']) fun w4 r4 m4 z4 => ?_⟩
  have r4 : Row w4 w2.heap.size 32 ⟨ncell (.mk 11 false x.2 [] [] [] [] []) (.slice none 0 0) (.slice none 0 0) (.slice none 0 0) (.slice none 0 0) (.slice none 0 0)⟩ := r4
  have res4 : Row w4 w.heap.size 32 ⟨zcell⟩ := ((r1.mod o2 (by omega)).still s3).mod m4 (by omega)
  have o4 : Only g w w4 := Mod.trans ((s1.only.tr o2).tr s3.only) m4 (fun _ h => h) (fun i hi e => by omega)
  have h4 := (h2.still s3).mod m4 (by intro k hk e; omega)
  have nb4 := NB.mk0 (B := w.heap.size + 1) r4 o4 hg (by omega) (by omega) ⟨rfl, rfl, rfl, rfl, rfl⟩
  generalize hgn : w2.heap.size = gn at *
  refine (next_spec h4).mono ?_
  rintro _ w5 ⟨rfl, o5, h5⟩
  refine .inl ⟨_, _, rfl, (next_spec h5).mono ?_⟩
  rintro _ w6 ⟨rfl, o6, h6⟩
  refine .inl ⟨_, _, rfl, (lines_spec h6).mono ?_⟩
  rintro _ w7 ⟨rfl, o7, h7⟩
  have nb7 := ((nb4.on o5).on o6).on o7
  have res7 := ((res4.mod o5 (by omega)).mod o6 (by omega)).mod o7 (by omega)
  rw [dep_up hL]
  refine .inl ⟨rfl, (hc _ _ _ h7 (hb.tail.tail.tail.suf (linesF_suf r))).mono ?_⟩
  rintro e8 w8 ⟨o8, hp⟩
  have nb8 := nb7.on o8
  cases hr : (lvS L).1 (linesF r) with
  | bad k =>
    rw [hr] at hp
    exact .inr ⟨_, hp, nb8.only, rfl⟩
  | ok u =>
  rw [hr] at hp
  obtain ⟨cs, rfl, hnd, h8⟩ := hp
  obtain ⟨pw, cw, pa, ca, pr, cr, po, co, pk, ck, rfl, _⟩ := hnd.outs
  have hl8 := nb8.row.lt
  have hz8 := o8.size
  have hl7 := nb7.row.lt
  rw [Rs.ok_and]
  refine .inl ⟨_, _, _, _, _, _, _, _, _, _, _, _, _, _, _, _, _, _, rfl, allocK fun w9 r9 s9 z9 => stK r9 (by simp) (by simp [Value.oneCell']) fun w10 r10 m10 z10 => ?_⟩
  have r10 : Row w10 w8.heap.size 32 ⟨ncell u.1 (.slice pw u.1.ws.length cw) (.slice pa u.1.as.length ca) (.slice pr u.1.rs.length cr) (.slice po u.1.os.length co) (.slice pk u.1.ks.length ck)⟩ := r10
  have o710 : Only g w7 w10 := Mod.trans (o8.tr s9.only) m10 (fun _ h => h) (fun i hi e => by omega)
  have nb10 := nb7.on o710
  have h10 := (h8.still s9).mod m10 (by intro k hk e; omega)
  have hnd10 := (hnd.still s9).mod m10 (fun k hk e => by omega)
  have res10 := res7.mod o710 (by omega)
  refine ⟨fun w13 => w13 = w10 ∧ (4 ≤ u.1.k ∧ u.1.k ≤ 9), ⟨u.1.k, r10.lget rfl, bsel_of (fun h4 => ⟨u.1.k, r10.lget rfl, wantK (fun h9 => ⟨rfl, of_decide_eq_true h4, of_decide_eq_true h9⟩) (fun h9 => ⟨nb10.only, ?_⟩)⟩) (fun h4 => wantK (fun hf => by cases hf) (fun _ => ⟨nb10.only, ?_⟩))⟩, ?_⟩
  · rw [if_neg (fun hk => of_decide_eq_false h9 hk.2)]
  · rw [if_neg (fun hk => of_decide_eq_false h4 hk.1)]
  rintro _ w13 ⟨rfl, hk⟩
  rw [if_pos hk]
  refine ⟨_, _, _, _, _, _, _, _, _, _, _, _, _, _, _, _, _, _, r10.lget rfl, r10.lget rfl, r10.lget rfl, r10.lget rfl, r10.lget rfl, r10.lget rfl, r10.lget rfl, r10.lget rfl, setK_spec nb7 o710 (hnd10.mono fun k hk => ⟨hk.1, by omega⟩) fun vk12 w14 X12 nb14 m14 => ?_⟩
  exact nExit_spec nb14 (res10.mod m14 (by intro e; omega)) (Nat.lt_succ_self _) fun w' cs' m' o' hn' => ⟨o', _, rfl, hn', (h10.mod m14 (by intro k hk e; omega)).mod m' fun j hj e => by omega⟩
end Go.Proofs.YtcoeiiihmpnagaaDoor
namespace Go.Proofs.YtcoeiiihmpnagaaDoor
open Go.RowKit Vc
variable {w : World}

theorem simpleS_red {a : List (List Pt) × List (Txt × List Pt) × List (Txt × List Pt)} {s : Ts} (h : redirB s = true) : simpleS a s = (redirF s).and fun x => .ok (.inl ((a.1, a.2.1, a.2.2 ++ [x.1]), x.2)) := by
  unfold simpleS
  rw [if_pos h]
theorem simpleS_end {a : List (List Pt) × List (Txt × List Pt) × List (Txt × List Pt)} {s : Ts} (h : redirB s = false) (hk : isW s = false) : simpleS a s = if a.1.length + a.2.1.length + a.2.2.length = 0 then .bad 100 else .ok (.inr (.mk 0 false [] a.1 a.2.1 a.2.2 [] [], s)) := by
  unfold simpleS
  rw [if_neg (by rw [h]; decide)]
  match s, hk with
  | [], _ => rfl
  | (k, t) :: r, hk => simp only [if_neg (of_decide_eq_false hk)]
theorem simpleS_asg {a : List (List Pt) × List (Txt × List Pt) × List (Txt × List Pt)} {t : Txt} {r : Ts} {R : Rs ((Txt × List Pt) × Ts)} (h : redirB ((0, t) :: r) = false) (ha : a.1 = []) (hR : asgR ((0, t) :: r) = some R) : simpleS a ((0, t) :: r) = R.and fun x => .ok (.inl ((a.1, a.2.1 ++ [x.1], a.2.2), x.2)) := by
  unfold simpleS
  rw [if_neg (by rw [h]; decide)]
  simp only [if_pos ha, asgR] at hR ⊢
  cases hy : asgF t with
  | none => rw [hy] at hR; cases hR
  | some y =>
    rw [hy] at hR
    obtain rfl := Option.some.inj hR
    simp only [↓reduceIte]
    cases wpL 30 y.2 <;> rfl
theorem simpleS_word {a : List (List Pt) × List (Txt × List Pt) × List (Txt × List Pt)} {t : Txt} {r : Ts} (h : redirB ((0, t) :: r) = false) (ha : a.1 ≠ [] ∨ asgR ((0, t) :: r) = none) : simpleS a ((0, t) :: r) = (partsF ((0, t) :: r)).and fun x => .ok (.inl ((a.1 ++ [x.1], a.2.1, a.2.2), x.2)) := by
  unfold simpleS
  rw [if_neg (by rw [h]; decide)]
  have hn : (if a.1 = [] then asgF t else none) = none := by
    rcases ha with ha | ha
    · rw [if_neg ha]
    · split
      · cases hy : asgF t with
        | none => rfl
        | some y => simp only [asgR, hy] at ha; cases ha
      · rfl
  simp only [hn, partsF, ↓reduceIte]
  cases wpL 30 t <;> rfl
theorem simple_spec {g : Nat} {s : Ts} (h : Pz w g s) (hb : TB s) : Calls Tryd.prog fn_syntax_parser_simple #[.pointer (some ⟨g, 0, none⟩)] w (SyP w g (simpleF s)) := by
  refine syntax_parser_simple_calls _ _ _ ?_
  have hg := h.lt
  have hs0 := hb.1
  refine allocK fun w1 r1 s1 z1 => ?_
  have r1 : Row w1 w.heap.size 32 ⟨ncell (.mk 0 false [] [] [] [] [] []) (.slice none 0 0) (.slice none 0 0) (.slice none 0 0) (.slice none 0 0) (.slice none 0 0)⟩ := r1
  have nb1 := NB.mk0 (B := w.heap.size) r1 s1.only hg (Nat.le_refl _) (Nat.le_refl _) ⟨rfl, rfl, rfl, rfl, rfl⟩
  refine ⟨fun w2 => ∃ s9 ws asn rs vw va vr X, NB w w2 g w.heap.size w.heap.size X (.mk 0 false [] ws asn rs [] []) vw va vr (.slice none 0 0) (.slice none 0 0) ∧ Pz w2 g s9 ∧ s9 <:+ s ∧ ws.length + asn.length + rs.length + s9.length ≤ s.length ∧ manyF simpleS (ws, asn, rs) s9 = simpleF s, pzLen g, ⟨s, [], [], [], _, _, _, _, nb1, h.still s1, List.suffix_refl _, by simp only [List.length_nil]; omega, rfl⟩, ?_⟩
  rintro _ w2 ⟨s9, ws, asn, rs, vw, va, vr, X, nb2, h2, hsf9, hlen, heq⟩
  have hm := manyF_step simpleS_sinks (ws, asn, rs) s9
  rw [heq] at hm
  clear heq
  have hb9 := hb.suf hsf9
  refine (redirects_spec h2).mono ?_
  rintro _ w3 ⟨rfl, s3⟩
  have nb3 := nb2.still s3
  have h3 := h2.still s3
  refine .inl ⟨_, rfl, bsel_of (fun hx => ?_) (fun hx => ?_)⟩
  · have hst := simpleS_red (a := (ws, asn, rs)) hx
    rw [hst] at hm
    refine redK_spec nb3 h3 hb9 (by rintro rfl; cases hx) (show rs.length < 1000000 by omega) (fun k w' hr o => ⟨o, ?_⟩) (fun z vr4 w4 X4 hr nb4 h4 m4 => ?_)
    · rw [hr] at hm
      have hm : simpleF s = .bad k := hm
      rw [hm]
    rw [hr] at hm
    have hz1 := redirF_eats _ _ hr
    have hz2 := redirF_suf _ _ hr
    exact ⟨⟨z.2, ws, asn, rs ++ [z.1], vw, va, vr4, X4, nb4, h4, hz2.trans hsf9, by simp only [List.length_append, List.length_cons, List.length_nil]; omega, hm.symm⟩, by rw [h4.len, h2.len]; omega⟩
  refine (peek_spec h3 0).mono ?_
  rintro _ w8 ⟨rfl, s8⟩
  have nb8 := nb3.still s8
  have h8 := h3.still s8
  refine .inl ⟨_, _, rfl, ?_⟩
  rw [isW_peek]
  obtain ⟨pw, cw, rfl⟩ := nb8.ow.form
  obtain ⟨pa, ca, rfl⟩ := nb8.oa.form
  obtain ⟨pr, cr, rfl⟩ := nb8.ord.form
  refine bsel_of (fun hk => ?_) (fun hk => ?_)
  · have hk : isW s9 = false := by simpa using hk
    rw [simpleS_end hx hk] at hm
    simp only at hm
    refine ⟨pw, ws.length, cw, nb8.row.lget rfl, pa, asn.length, ca, nb8.row.lget rfl, pr, rs.length, cr, nb8.row.lget rfl, wantK (fun ht => ?_) (fun ht => ⟨nb8.only, ?_⟩)⟩
    · have ht := of_decide_eq_true ht
      rw [wrap_i64 (n := (ws.length : Int) + (asn.length : Int)) (by omega) (by omega), wrap_i64 (by omega) (by omega)] at ht
      rw [if_neg (by omega)] at hm
      have hm : simpleF s = .ok (.mk 0 false [] ws asn rs [] [], s9) := hm
      refine nExit_self nb8 fun w' cs' m' o' hn' => ⟨o', ?_⟩
      rw [hm]
      exact ⟨_, rfl, hn', h8.mod m' fun j hj e => by omega⟩
    · have ht := of_decide_eq_false ht
      rw [wrap_i64 (n := (ws.length : Int) + (asn.length : Int)) (by omega) (by omega), wrap_i64 (by omega) (by omega)] at ht
      rw [if_pos (by omega)] at hm
      have hm : simpleF s = .bad 100 := hm
      rw [hm]
  have hk : isW s9 = true := by simpa using hk
  obtain ⟨t, r, rfl⟩ : ∃ t r, s9 = (0, t) :: r := by
    match s9, hk with
    | (k, t) :: r, hk => exact ⟨t, r, by rw [show k = 0 from of_decide_eq_true hk]⟩
  simp only [List.length_cons] at hlen
  refine ⟨fun w17 => NB w w17 g w.heap.size w.heap.size X (.mk 0 false [] ws asn rs [] []) (.slice pw ws.length cw) (.slice pa asn.length ca) (.slice pr rs.length cr) (.slice none 0 0) (.slice none 0 0) ∧ Pz w17 g ((0, t) :: r) ∧ (ws ≠ [] ∨ asgR ((0, t) :: r) = none), ⟨pw, ws.length, cw, nb8.row.lget rfl, bsel_of (fun he => ?_) (fun he => ?_)⟩, ?_⟩
  · have hws : ws = [] := List.eq_nil_of_length_eq_zero (by have := of_decide_eq_true he; omega)
    refine (assignment_spec h8 hb9).mono ?_
    rintro e11 w11 ⟨o11, hp⟩
    have hz11 := o11.size
    have hl8 := nb8.row.lt
    cases hR : asgR ((0, t) :: r) with
    | none =>
      rw [hR] at hp
      obtain ⟨t', p', n', c', rfl, h11⟩ := hp
      refine .inl ⟨_, _, _, _, _, rfl, allocK fun w12 r12 s12 z12 => stK r12 (by simp) (by simp [Value.oneCell']) fun w13 r13 m13 z13 => ?_⟩
      have o13 : Only g w8 w13 := Mod.trans (o11.tr s12.only) m13 (fun _ h => h) (fun i hi e => by omega)
      exact ⟨nb8.on o13, (h11.still s12).mod m13 (by intro k hk e; omega), .inr rfl⟩
    | some R =>
      rw [hR] at hp
      rw [simpleS_asg hx hws hR] at hm
      cases R with
      | bad k =>
        have hm : simpleF s = .bad k := hm
        exact .inr ⟨_, hp, (nb8.on o11).only, by rw [hm]⟩
      | ok z =>
        obtain ⟨p', c', rfl, hsl, h11⟩ := hp
        have hz1 := simpleS_sinks _ _ _ (simpleS_asg (a := (ws, asn, rs)) hx hws hR)
        have hz2 := simpleS_suf _ _ _ (simpleS_asg (a := (ws, asn, rs)) hx hws hR)
        have hz1 : z.2.length < ((0, t) :: r).length := hz1
        have hz2 : z.2 <:+ (0, t) :: r := hz2
        simp only [List.length_cons] at hz1
        refine .inl ⟨_, _, _, _, _, rfl, allocK fun w12 r12 s12 z12 => stK r12 (by simp) (by simp [Value.oneCell']) fun w13 r13 m13 z13 => ?_⟩
        have o13 : Only g w8 w13 := Mod.trans (o11.tr s12.only) m13 (fun _ h => h) (fun i hi e => by omega)
        have h13 := (h11.still s12).mod m13 (by intro k hk e; omega)
        have nb13 := nb8.on o13
        have hsl13 : SlAt w13 (fun k => w8.heap.size ≤ k ∧ k < w13.heap.size) z.1.2 (.slice p' z.1.2.length c') := hsl.turn (fun k hk => ⟨by omega, by omega⟩) fun a v ⟨k, hk, ea⟩ hcell => mod_cell m13 (by rw [ea]; show ¬ k = w11.heap.size; omega) (s12.cell hcell)
        refine ⟨pa, asn.length, ca, nb13.row.lget rfl, z.1.1, p', z.1.2.length, c', r13.lget rfl, r13.lget rfl, NB.addA' (y := z.1) nb8 o13 ⟨_, rfl, hsl13⟩ (show asn.length < 1000000 by omega) fun p2 c2 w16 X16 nb16 m16 => ?_⟩
        have h16 := h13.mod m16 (by intro k hk e; omega)
        exact ⟨⟨z.2, ws, asn ++ [z.1], rs, _, _, _, X16, nb16, h16, hz2.trans hsf9, by simp only [List.length_append, List.length_cons, List.length_nil]; omega, hm.symm⟩, by rw [h16.len, h2.len]; simp only [List.length_cons]; omega⟩
  · exact ⟨nb8, h8, .inl (by rintro rfl; exact of_decide_eq_false he rfl)⟩
  · rintro _ w17 ⟨nb17, h17, hor⟩
    rw [simpleS_word (a := (ws, asn, rs)) hx hor] at hm
    refine wordK_spec nb17 h17 hb9 (show ws.length < 1000000 by omega) (fun k w' hr o => ⟨o, ?_⟩) (fun z vw9 w9 X9 hr nb9 h9 m9 => ?_)
    · rw [hr] at hm
      have hm : simpleF s = .bad k := hm
      rw [hm]
    rw [hr] at hm
    have hz1 := partsF_eats _ _ hr
    have hz2 := partsF_suf _ _ hr
    simp only [List.length_cons] at hz1
    exact ⟨⟨z.2, ws ++ [z.1], asn, rs, vw9, _, _, X9, nb9, h9, hz2.trans hsf9, by simp only [List.length_append, List.length_cons, List.length_nil]; omega, hm.symm⟩, by rw [h9.len, h2.len]; simp only [List.length_cons]; omega⟩
end Go.Proofs.YtcoeiiihmpnagaaDoor
namespace Go.Proofs.YtcoeiiihmpnagaaDoor
open Go.RowKit Vc
variable {w : World}

abbrev Nd.noR (x : Nd) : Nd := .mk x.k x.neg x.nm x.ws x.as [] x.os x.ks
structure NR (w0 w : World) (g gn B : Nat) (X : Nat → Prop) (x : Nd) (vw va vr vo vk : Value) : Prop where
  row : Row w gn 32 ⟨ncell x vw va vr vo vk⟩
  only : Only g w0 w
  hg : g < w0.heap.size
  hB : w0.heap.size ≤ B
  hgn : B ≤ gn
  xs : ∀ k, X k → k < w.heap.size ∧ B ≤ k
  xg : X gn
  ord : nsE.OutX w B 54 X gn x.rs vr
  rest : NdE w (fun k => B ≤ k ∧ k < w.heap.size ∧ ¬ X k) x.noR (ncell x.noR vw va (.slice none 0 0) vo vk)
section
variable {w0 w1 w' : World} {g gn B : Nat} {X : Nat → Prop} {x : Nd} {vw va vr vo vk : Value}
theorem NR.on (h : NR w0 w g gn B X x vw va vr vo vk) (hm : Only g w w') : NR w0 w' g gn B X x vw va vr vo vk := by
  have hz := hm.size
  have hg := h.hg
  have hB := h.hB
  have hgn := h.hgn
  refine ⟨h.row.mod hm (by omega), h.only.tr hm, hg, hB, hgn, fun k hk => ⟨Nat.lt_of_lt_of_le (h.xs k hk).1 hz, (h.xs k hk).2⟩, h.xg, h.ord.mod hm (fun k h1 h2 (h3 : k = g) => by omega) (fun _ h => h) (fun _ h => .inl h), ?_⟩
  exact (h.rest.mod hm fun k hk (e : k = g) => by omega).mono fun k hk => ⟨hk.1, by omega, hk.2.2⟩
theorem NR.still (h : NR w0 w g gn B X x vw va vr vo vk) (hm : Still w w') : NR w0 w' g gn B X x vw va vr vo vk := h.on hm.only
theorem NR.nde (h : NR w0 w g gn B X x vw va vr vo vk) : NdE w (fun k => B ≤ k ∧ k < w.heap.size) x (ncell x vw va vr vo vk) := by
  obtain ⟨vw', va', vr', vo', vk', he, a1, a2, _, a4, a5⟩ := (h.rest.mono (G := fun k => B ≤ k ∧ k < w.heap.size) fun k hk => ⟨hk.1, hk.2.1⟩).out
  simp only [ncell, List.cons.injEq, true_and, and_true] at he
  obtain ⟨rfl, rfl, _, rfl, rfl⟩ := he
  exact NdE.of a1 a2 h.ord.at a4 a5
theorem NR.addR {p : Option Addr} {n c : Nat} {y : Txt × List Pt} {cs : List Value} (h : NR w0 w1 g gn B X x vw va (.slice p n c) vo vk) (o : Only g w1 w) (hy : nsE.E w (fun k => w1.heap.size ≤ k ∧ k < w.heap.size) y cs) (hn : x.rs.length < 1000000) {K : World → Prop}
    (hK : ∀ p' c' w' X', NR w0 w' g gn B X' (x.addR y) vw va (.slice p' (n + 1) c') vo vk → Mod (fun k => B ≤ k) w w' → K w') :
    letW (w.alloc (.cells ⟨cs⟩ 54)) (fun w2 => w2.cell? (Addr.mk gn 5 none) = some (.slice p n c) ∧ appK w2 54 2 40 p n c (some (Addr.mk w.heap.size 0 none)) 1 (fun p' c' w9 => stCells (Addr.mk gn 5 none) K 0 [.slice p' (n + 1) c'] w9)) := by
  have h2 := h.on o
  obtain ⟨_, _, _, he, _, hg, _⟩ := id h2.ord
  injection he with _ en _
  have hgl := h2.row.lt
  have hsz := h.only.size
  have hoz := o.size
  have hgn := h2.hgn
  have hB := h2.hB
  refine Enc.OutX.push (Sw := fun wq => wq.cell? (Addr.mk gn 5 none) = some (.slice p n c)) h2.ord (by omega) (fun k hk => (h2.xs k hk).1) hgl (fun wq hq => (h2.row.still hq).lget rfl) (nsE.turn (fun k hk => ⟨?_, hk.2, fun hx => ?_⟩) (fun _ _ _ h => h) hy) (by omega) (by omega) fun p' c' w9 ho9 hm9 hw9 hl9 => ?_
  · have := h.row.lt
    omega
  · have := (h.xs k hx).1
    omega
  have hr9 := h2.row.mod hm9 (fun hk => (hg gn hk).2 rfl)
  refine stK hr9 (by simp) (by simp [Value.oneCell']) fun w10 r10 m10 z10 => hK p' c' w10 (fun k => X k ∨ (Value.slice p' (n + 1) c').ownBlock = some k) ?_ ?_
  rotate_left
  · exact Mod.trans hm9 m10 (fun k hk => (h2.xs k (hg k hk).1).2) (fun k _ hk => by omega)
  have hz9 := hm9.size
  have hz10 := m10.size
  have own10 := ho9.mod m10 (X' := fun k => X k ∨ (Value.slice p' (n + 1) c').ownBlock = some k) (fun k _ _ e => by
    subst e
    obtain ⟨_, _, _, _, _, hgv, _⟩ := id ho9
    exact ⟨.inl h2.xg, fun hk => (hgv _ hk).2 rfl⟩) (fun _ h => h) (fun _ h => .inl h)
  have hlow : ∀ k, (Value.slice p' (n + 1) c').ownBlock = some k → B ≤ k := fun k hk => by
    rcases hw9 k hk with hk | hk
    · exact (h2.xs k hk).2
    · omega
  have rest9 : NdE w9 (fun k => B ≤ k ∧ k < w9.heap.size ∧ ¬ (X k ∨ (Value.slice p' (n + 1) c').ownBlock = some k)) x.noR _ := (h2.rest.mod hm9 fun k hk hs => hk.2.2 (hg k hs).1).mono fun k hk => ⟨hk.1, by omega, fun hx => hx.elim hk.2.2 fun hx => (hw9 k hx).elim hk.2.2 (fun h => by omega)⟩
  have rest10 := (rest9.mod m10 fun k hk (e : k = gn) => hk.2.2 (.inl (e ▸ h2.xg))).mono (G := fun k => B ≤ k ∧ k < w10.heap.size ∧ ¬ (X k ∨ (Value.slice p' (n + 1) c').ownBlock = some k)) fun k hk => ⟨hk.1, by omega, hk.2.2⟩
  refine ⟨r10, Mod.trans (Mod.trans h2.only hm9 (fun _ h => h) (fun i hi hk => by have := (h2.xs _ (hg _ hk).1).2; omega)) m10 (fun _ h => h) (fun i hi e => by omega), h2.hg, hB, hgn, fun k hk => ?_, .inl h2.xg, own10, rest10⟩
  rcases hk with hk | hk
  · have := h2.xs k hk
    exact ⟨by omega, this.2⟩
  · have := hl9 k hk
    exact ⟨by omega, hlow k hk⟩
theorem redR_spec (nb : NR w0 w1 g gn B X x vw va vr vo vk) {s : Ts} (hz : Pz w1 g s) (hb : TB s) (hs : s ≠ []) (hn : x.rs.length < 1000000) {K : World → Prop} {R : Ending → World → Prop}
    (hbad : ∀ k w', redirF s = .bad k → Only g w0 w' → R (.panicked (errP k)) w') (hok : ∀ y vr' w' X', redirF s = .ok y → NR w0 w' g gn B X' (x.addR y.1) vw va vr' vo vk → Pz w' g y.2 → Mod (fun k => k = g ∨ B ≤ k) w1 w' → K w') : redK g gn w1 K R := by
  obtain ⟨p, c, rfl⟩ := nb.ord.form
  have nb' := nb.still (drew_still w1)
  refine ⟨fun wq => wq.cell? (Addr.mk gn 5 none) = some (.slice p x.rs.length c), nb'.row.lget rfl, p, x.rs.length, c, fun _ h => h, ?_⟩
  refine (redir_spec (hz.still (drew_still w1)) hb hs).mono ?_
  rintro e5 w5 ⟨o5, hp⟩
  have nb5 := nb'.on o5
  cases hr : redirF s with
  | bad k =>
    rw [hr] at hp
    exact .inr ⟨_, hp, hbad k w5 hr nb5.only⟩
  | ok y =>
    rw [hr] at hp
    obtain ⟨v, rfl, hsl, h5⟩ := hp
    obtain ⟨q, d, rfl⟩ := hsl.form
    refine .inl ⟨_, _, _, _, rfl, nb5.row.lget rfl, NR.addR (x := x) (y := y.1) nb' o5 ⟨_, rfl, hsl⟩ hn fun p' c' w' X' nb6 hm => ?_⟩
    have hB := nb.hB
    have hg := nb.hg
    exact hok y _ w' X' hr nb6 (h5.mod hm fun k hk hb => by omega) (Mod.trans (Mod.trans ((drew_still w1).weaken fun _ h => h.elim) o5 (fun _ h => h) (fun _ _ h => .inl h)) hm (fun _ h => h) (fun _ _ h => .inr h))
theorem nExit_red {R : Ending → World → Prop} (h : NR w0 w g gn B X x vw va vr vo vk) (hres : Row w w0.heap.size 32 ⟨zcell⟩) (hB : w0.heap.size < B)
    (hR : ∀ w' cs, Mod (fun k => k = w0.heap.size) w w' → Only g w0 w' → NdE w' (fun k => w0.heap.size ≤ k ∧ k < w'.heap.size) x cs → R (.returned (.agg ⟨cs⟩)) w') : NExit gn w0.heap.size w R :=
  nExit_row h.row h.nde h.only hres hB hR
/-- A node told by a call, its redirections nil, kept in a box. -/
theorem NR.mk0 (hr : Row w gn 32 ⟨ncell x vw va (.slice none 0 0) vo vk⟩) (ho : Only g w0 w) (hg : g < w0.heap.size) (hB : w0.heap.size ≤ B) (hgn : B ≤ gn) (hx : x.rs = []) (hn : NdE w (fun k => B ≤ k ∧ k < w.heap.size ∧ k ≠ gn) x (ncell x vw va (.slice none 0 0) vo vk)) : NR w0 w g gn B (fun k => k = gn) x vw va (.slice none 0 0) vo vk := by
  refine ⟨hr, ho, hg, hB, hgn, fun k hk => by subst hk; exact ⟨hr.lt, hgn⟩, rfl, by rw [hx]; exact Enc.OutX.nil _ _ _ _ _ _, ?_⟩
  have e : x.noR = x := by
    cases x
    simp only [Nd.noR, Nd.rs] at hx ⊢
    rw [hx]
    rfl
  rw [e]
  exact hn
end
end Go.Proofs.YtcoeiiihmpnagaaDoor
