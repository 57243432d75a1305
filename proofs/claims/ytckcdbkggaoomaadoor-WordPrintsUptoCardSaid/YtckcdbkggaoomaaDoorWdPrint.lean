/- The text of parts: the program's Print and the reference's. Conditions: the parts hold fewer than a million bytes. -/
import Derived.Test.YtckcdbkggaoomaaDoorWdRec
import Derived.Test.YtckcdbkggaoomaaDoorReplace
namespace Go.Proofs.YtckcdbkggaoomaaDoor
open Go.RowKit Vc
variable {w : World}

/-- A builder of its own. -/
def Bd (w : World) (g B : Nat) (bs : Txt) : Prop := ∃ cs v, cs.length = 2 ∧ BldAt w 44 g 0 B cs v bs
theorem Bd.still {w' : World} {g B : Nat} {bs : Txt} (h : Bd w g B bs) (hm : Still w w') : Bd w' g B bs := by
  obtain ⟨cs, v, h1, h2⟩ := h
  exact ⟨cs, v, h1, h2.still hm⟩
theorem Bd.write {g B : Nat} {bs : Txt} (h : Bd w g B bs) (s : Txt) (hB : B ≤ w.heap.size) (hs : bs.length + s.length ≤ 140737488355328) {w0 : World} (h0 : Still w0 w) (hg : w0.heap.size ≤ g) (hB0 : w0.heap.size ≤ B) :
    Calls Tryd.prog fn_strings_Builder_WriteString #[.pointer (some ⟨g, 0, none⟩), .string (S s)] w (fun e w' => e = .returned (.tuple #[.int .i64 (s.length : Int), .nilIface]) ∧ Bd w' g B (bs ++ s) ∧ Still w0 w' ∧ w.heap.size ≤ w'.heap.size) := by
  obtain ⟨cs, v, h1, h2⟩ := h
  have hl : LiesB 44 cs.length 0 := by rw [h1]; exact liesB_own
  refine (writeString_spec h2 hl s hB hs).mono ?_
  rintro _ w' ⟨rfl, v', h3, h4⟩
  refine ⟨rfl, ⟨_, v', by simp [h1], h3⟩, Mod.trans h0 h4 (fun _ h => h) (fun k hk e => ?_), h4.size⟩
  rcases e with e | e
  · omega
  · have := (h2.own.lt k e).1; omega
theorem Bd.told {g B : Nat} {bs : Txt} (h : Bd w g B bs) (hs : bs.length ≤ 140737488355328) {w0 : World} (h0 : Still w0 w) (hB0 : w0.heap.size ≤ B) : Calls Tryd.prog fn_strings_Builder_String #[.pointer (some ⟨g, 0, none⟩)] w (fun e w' => e = .returned (.string (S bs)) ∧ Still w0 w') := by
  obtain ⟨cs, v, h1, h2⟩ := h
  refine (string_spec h2 hs).mono ?_
  rintro _ w' ⟨rfl, h4⟩
  exact ⟨rfl, Mod.trans h0 h4 (fun _ h => h) fun k hk e => by have := (h2.own.lt k e).1; omega⟩

/-- A part's text, but for the quotes about it. -/
def core (x : Pt) : Txt := if x.k = 2 then [36, 40] ++ x.t ++ [41] else if x.k = 3 then [36, 40, 40] ++ x.t ++ [41, 41] else if x.k = 1 then (if x.o = lenO then [36, 123, 35] ++ x.n ++ [125] else [36, 123] ++ x.n ++ x.o ++ prL x.w ++ [125]) else []
theorem pr_core (x : Pt) : x.pr = if x.k = 0 then (if x.q = true then single x.t else x.t) else wrapQ x.q (core x) := by
  cases x
  rfl
theorem single_repl (t : Txt) : single t = 39 :: replB 39 [39, 92, 39, 39] t ++ [39] := rfl
theorem prL_take {l : List Pt} {k : Nat} (h : k < l.length) : prL (l.take (k + 1)) = prL (l.take k) ++ l[k].pr := by
  rw [take_one h, prL_append]
  simp [prL]
theorem core_len (x : Pt) : (core x).length + 2 ≤ x.wt := by
  have h1 := x.wt_eq
  have h2 := prL_len x.w
  unfold core
  split
  · simp; omega
  · split
    · simp; omega
    · split
      · split
        · simp; omega
        · simp; omega
      · simp only [List.length_nil]; omega
/-- The program's plain, where Print tells words. -/
theorem plain_of {x : Pt} {F : Nat → Prop} {vw : Value} (hw : SlAt w F x.w vw) (hl : x.wt < 1000000) (ih : ∀ w1, Still w w1 → Calls Tryd.prog fn_word_Print #[vw] w1 (fun e w' => e = .returned (.string (S (prL x.w))) ∧ Still w1 w')) :
    Calls Tryd.prog fn_word_plain #[pagg x vw] w (fun e w' => e = .returned (.string (S (core x))) ∧ Still w w') := by
  obtain ⟨wp, wc, rfl⟩ := hw.form
  have h1 := x.wt_eq
  have h2 := prL_len x.w
  refine word_plain_calls _ _ _ _ _ _ _ _ _ _ ?_
  refine allocK fun w1 r1 s1 z1 => ?_
  obtain ⟨f0, f1, f2, f3, f4, f5⟩ := box_fields (x := x) r1
  unfold core
  refine ⟨_, f0, bsel_of (fun h => ?_) (fun h => bsel_of (fun h3 => ?_) (fun h3 => bsel_of (fun h4 => ⟨_, f4, bsel_of (fun h5 => ?_) (fun h5 => ?_)⟩) (fun h4 => ?_)))⟩
  · rw [if_pos (of_decide_eq_true h)]
    exact ⟨_, f2, by simp only [List.length_cons, List.length_nil]; omega, by simp only [List.length_append, List.length_cons, List.length_nil]; omega, rfl, s1⟩
  · rw [if_neg (of_decide_eq_false h), if_pos (of_decide_eq_true h3)]
    exact ⟨_, f2, by simp only [List.length_cons, List.length_nil]; omega, by simp only [List.length_append, List.length_cons, List.length_nil]; omega, rfl, s1⟩
  · rw [if_neg (of_decide_eq_false h), if_neg (of_decide_eq_false h3), if_pos (of_decide_eq_true h4), if_pos (of_decide_eq_true h5)]
    exact ⟨_, f3, by simp only [List.length_cons, List.length_nil]; omega, by simp only [List.length_append, List.length_cons, List.length_nil]; omega, rfl, s1⟩
  · rw [if_neg (of_decide_eq_false h), if_neg (of_decide_eq_false h3), if_pos (of_decide_eq_true h4), if_neg (of_decide_eq_false h5)]
    have rd : ∀ wq : World, Still w1 wq → Row wq w.heap.size 39 ⟨pcell x (.slice wp x.w.length wc)⟩ := fun wq hq => r1.still hq
    refine ⟨fun wq => Still w1 wq, drew_still w1, x.n, fun wq hq => (rd wq hq).lget rfl, by simp only [List.length_cons, List.length_nil]; omega, x.o, fun wq hq => (rd wq hq).lget rfl, by simp only [List.length_append, List.length_cons, List.length_nil]; omega, wp, x.w.length, wc, fun wq hq => (rd wq hq).lget rfl, ?_⟩
    refine (ih w1.drew s1.toDrew).mono ?_
    rintro _ w2 ⟨rfl, s2⟩
    exact .inl ⟨_, rfl, (drew_still w1).trans s2, by simp only [List.length_append, List.length_cons, List.length_nil]; omega, by simp only [List.length_append, List.length_cons, List.length_nil]; omega, rfl, s1.toDrew.trans s2⟩
  · rw [if_neg (of_decide_eq_false h), if_neg (of_decide_eq_false h3), if_neg (of_decide_eq_false h4)]
    exact ⟨rfl, s1⟩
theorem print_of : ∀ (n : Nat) (l : List Pt), SizeOf.sizeOf l < n → wtL l < 1000000 → ∀ (w : World) (F : Nat → Prop) (v : Value), SlAt w F l v → Calls Tryd.prog fn_word_Print #[v] w (fun e w' => e = .returned (.string (S (prL l))) ∧ Still w w') := by
  intro n
  induction n with
  | zero => intro l h; omega
  | succ n ih =>
    intro l hn hl w F v hv
    obtain ⟨p, c, rfl⟩ := hv.form
    have hwl := wtL_len l
    have hpl := prL_len l
    refine word_Print_calls _ _ _ _ _ ?_
    refine allocK fun w1 r1 s1 z1 => ?_
    have hb0 : Bd w1 w.heap.size (w.heap.size + 1) [] := ⟨_, _, rfl, BldAt.fresh r1 rfl rfl⟩
    refine ⟨fun x w2 => ∃ k : Nat, x = (k : Int) ∧ k ≤ l.length ∧ Bd w2 w.heap.size (w.heap.size + 1) (prL (l.take k)) ∧ Still w w2 ∧ w1.heap.size ≤ w2.heap.size, fun x _ => l.length - x.toNat, ⟨0, rfl, Nat.zero_le _, hb0, s1, Nat.le_refl _⟩, ?_⟩
    rintro _ _ w2 ⟨k, rfl, hk, hb, hs2, hz2⟩
    refine bsel_of (fun hx => ?_) (fun hx => ?_)
    rotate_left
    · have hx : k = l.length := by have := of_decide_eq_false hx; omega
      rw [hx, List.take_length] at hb
      refine (hb.told (by omega) hs2 (by omega)).mono ?_
      rintro _ w3 ⟨rfl, s3⟩
      exact .inl ⟨_, rfl, rfl, s3⟩
    have hx : k < l.length := by have := of_decide_eq_true hx; omega
    obtain ⟨b, wp, wc, rfl, c0, c1, c2, c3, c4, c5, hsw⟩ := (hv.still hs2).fields hx
    have hwk := wt_take hx
    have hpk := prL_len (l.take k)
    have hxw := l[k].wt_eq
    have hcl := core_len l[k]
    rw [Int.toNat_natCast]
    refine ⟨fun w13 => Bd w13 w.heap.size (w.heap.size + 1) (prL (l.take (k + 1))) ∧ Still w w13 ∧ w1.heap.size ≤ w13.heap.size, ⟨by omega, by omega, _, _, _, _, _, _, _, _, c0, c1, c2, c3, c4, c5, boxK rfl one6 fun w4 r4 s4 z4 => ?_⟩, ?_⟩
    rotate_left
    · rintro _ w13 ⟨h1, h2, h3⟩
      rw [show IntKind.i64.wrap ((k : Int) + 1) = ((k + 1 : Nat) : Int) by rw [wrap_i64 (by omega) (by omega)]; omega]
      exact ⟨⟨k + 1, rfl, hx, h1, h2, h3⟩, by dsimp only; omega⟩
    have hb4 := hb.still s4
    have hs4 := hs2.trans s4
    have hz4 : w1.heap.size ≤ w4.heap.size := by omega
    refine ⟨fun b w5 => b = (decide (l[k].k = 0) && l[k].q) ∧ w5 = w4, ⟨_, r4.lget rfl, bsel_of (fun h => ⟨_, r4.lget rfl, ?_, rfl⟩) (fun h => ⟨?_, rfl⟩)⟩, ?_⟩
    · rw [h, Bool.true_and]
    · rw [h, Bool.false_and]
    rintro b' _ w5 ⟨hb', rfl⟩
    -- what is told is put behind
    have put : ∀ (s : Txt) (w6 : World), Still w5 w6 → l[k].pr = s → Calls Tryd.prog fn_strings_Builder_WriteString #[.pointer (some (Addr.mk w.heap.size 0 none)), .string (S s)] w6 (fun ed w7 => (∃ r1 : Int, ∃ r2 : Value, r2.oneCell' = true ∧ ed = .returned (.tuple #[.int .i64 r1, r2]) ∧ Bd w7 w.heap.size (w.heap.size + 1) (prL (l.take (k + 1))) ∧ Still w w7 ∧ w1.heap.size ≤ w7.heap.size) ∨ (∃ ch, ed = .panicked ch ∧ (Ending.panicked ch = .returned (.string (S (prL l))) ∧ Still w w7))) := by
      intro s w6 s6 hs
      have hps := l[k].pr_len
      refine ((hb4.still s6).write s (by have := s6.size; omega) (by rw [← hs]; omega) (hs4.trans s6) (Nat.le_refl _) (by omega)).mono ?_
      rintro _ w7 ⟨rfl, h7, s7, z7⟩
      refine .inl ⟨_, _, rfl, rfl, by rw [prL_take hx, hs]; exact h7, s7, by have := s6.size; omega⟩
    refine bsel_of (fun h => ?_) (fun h => ⟨_, r4.lget rfl, bsel_of (fun h3 => ?_) (fun h3 => ⟨_, r4.lget rfl, bsel_of (fun h5 => ?_) (fun h5 => ?_)⟩)⟩)
    · rw [h] at hb'
      have hk0 : l[k].k = 0 ∧ l[k].q = true := by simpa using hb'.symm
      refine ⟨_, r4.lget rfl, (replaceAll_spec 39 [39, 92, 39, 39] l[k].t (by omega) (by decide) (by decide) (by decide)).mono ?_⟩
      rintro _ w6 ⟨rfl, s6⟩
      have hsl := single_len l[k].t
      rw [single_repl] at hsl
      simp only [List.length_append, List.length_cons, List.length_nil] at hsl
      exact .inl ⟨_, rfl, by simp only [List.length_cons, List.length_nil]; omega, by simp only [List.length_append, List.length_cons, List.length_nil]; omega, put _ w6 s6 (by rw [pr_core, if_pos hk0.1, if_pos hk0.2]; rfl)⟩
    · have hk0 : l[k].k = 0 := of_decide_eq_true h3
      have hq0 : l[k].q = false := by
        rw [h, hk0] at hb'
        simpa using hb'.symm
      exact ⟨_, r4.lget rfl, put _ _ (Still.refl _) (by rw [pr_core, if_pos hk0, if_neg (by rw [hq0]; decide)])⟩
    · have hk0 : ¬ l[k].k = 0 := of_decide_eq_false h3
      refine ⟨_, _, _, _, _, _, _, _, r4.lget rfl, r4.lget rfl, r4.lget rfl, r4.lget rfl, r4.lget rfl, r4.lget rfl, (plain_of (x := l[k]) (hsw.still s4) (by omega) fun wq hq => ih _ (by have := word_of hx; omega) (by have := wt_word hx; omega) wq F _ ((hsw.still s4).still hq)).mono ?_⟩
      rintro _ w6 ⟨rfl, s6⟩
      exact .inl ⟨_, rfl, by simp only [List.length_cons, List.length_nil]; omega, by simp only [List.length_append, List.length_cons, List.length_nil]; omega, put _ w6 s6 (by rw [pr_core, if_neg hk0, wrapQ, if_pos h5]; rfl)⟩
    · have hk0 : ¬ l[k].k = 0 := of_decide_eq_false h3
      refine ⟨_, _, _, _, _, _, _, _, r4.lget rfl, r4.lget rfl, r4.lget rfl, r4.lget rfl, r4.lget rfl, r4.lget rfl, (plain_of (x := l[k]) (hsw.still s4) (by omega) fun wq hq => ih _ (by have := word_of hx; omega) (by have := wt_word hx; omega) wq F _ ((hsw.still s4).still hq)).mono ?_⟩
      rintro _ w6 ⟨rfl, s6⟩
      exact .inl ⟨_, rfl, put _ w6 s6 (by rw [pr_core, if_neg hk0, wrapQ, if_neg (by rw [h5]; decide)])⟩
theorem Print_spec {F : Nat → Prop} {l : List Pt} {v : Value} (hv : SlAt w F l v) (hl : wtL l < 1000000) : Calls Tryd.prog fn_word_Print #[v] w (fun e w' => e = .returned (.string (S (prL l))) ∧ Still w w') := print_of _ l (Nat.lt_succ_self _) hl w F v hv

/-! ### The reference -/
theorem ref_single_spec (s : Txt) (hs : s.length < 1000000) : Calls Tryd.prog fn_ref08_single #[.string (S s)] w (fun e w' => e = .returned (.string (S (single s))) ∧ w' = w) := by
  refine ref08_single_calls _ _ _ ?_
  have fl : ∀ k, ((s.take k).flatMap fun b => if b = 39 then [39, 92, 39, 39] else [b]).length ≤ 4 * k := by
    intro k
    have h := single_len (s.take k)
    simp only [single, List.length_cons, List.length_append, List.length_nil, List.length_take] at h
    omega
  refine ⟨fun out i w1 => ∃ k : Nat, i = (k : Int) ∧ k ≤ s.length ∧ out = 39 :: (s.take k).flatMap (fun b => if b = 39 then [39, 92, 39, 39] else [b]) ∧ w1 = w, fun _ i _ => s.length - i.toNat, ⟨0, rfl, Nat.zero_le _, rfl, rfl⟩, ?_⟩
  rintro _ _ _ w1 ⟨k, rfl, hk, rfl, rfl⟩
  have hfk := fl k
  refine bsel_of (fun hx => ?_) (fun hx => ?_)
  rotate_left
  · have hx : k = s.length := by have := of_decide_eq_false hx; omega
    subst hx
    refine ⟨by simp only [List.length_cons, List.length_nil]; omega, ?_, rfl⟩
    rw [List.take_length]
    rfl
  have hx : k < s.length := by have := of_decide_eq_true hx; omega
  have e1 : IntKind.i64.wrap ((k : Int) + 1) = ((k + 1 : Nat) : Int) := by rw [wrap_i64 (by omega) (by omega)]; omega
  rw [Int.toNat_natCast, e1, Int.toNat_natCast]
  have step : (s.take (k + 1)).flatMap (fun b => if b = 39 then [39, 92, 39, 39] else [b]) = (s.take k).flatMap (fun b => if b = 39 then [39, 92, 39, 39] else [b]) ++ (if s[k] = 39 then [39, 92, 39, 39] else [s[k]]) := by
    rw [take_one hx, List.flatMap_append]
    simp
  refine ⟨by omega, s[k], getD_some hx, bsel_of (fun h => ?_) (fun h => ?_)⟩
  · have h : s[k] = 39 := byte_eq.1 (of_decide_eq_true h)
    refine ⟨by simp only [List.length_cons, List.length_nil]; omega, ⟨k + 1, rfl, hx, ?_, rfl⟩, by dsimp only; omega⟩
    rw [step, if_pos h]
    rfl
  · have h : ¬ s[k] = 39 := fun e => of_decide_eq_false h (byte_eq.2 e)
    rw [drop_take1 hx]
    refine ⟨by omega, by omega, by omega, by simp only [List.length_cons, List.length_nil]; omega, ⟨k + 1, rfl, hx, ?_, rfl⟩, by dsimp only; omega⟩
    rw [step, if_neg h]
    rfl
theorem ref_print_of : ∀ (n : Nat) (l : List Pt), SizeOf.sizeOf l < n → wtL l < 1000000 → ∀ (w : World) (F : Nat → Prop) (v : Value), SlAt w F l v → Calls Tryd.prog fn_ref08_Print #[v] w (fun e w' => e = .returned (.string (S (prL l))) ∧ Still w w') := by
  intro n
  induction n with
  | zero => intro l h; omega
  | succ n ih =>
    intro l hn hl w F v hv
    obtain ⟨p, c, rfl⟩ := hv.form
    have hwl := wtL_len l
    have hpl := prL_len l
    refine ref08_Print_calls _ _ _ _ _ ?_
    refine ⟨fun out x w2 => ∃ k : Nat, x = (k : Int) ∧ k ≤ l.length ∧ out = prL (l.take k) ∧ Still w w2, fun _ x _ => l.length - x.toNat, ⟨0, rfl, Nat.zero_le _, rfl, Still.refl _⟩, ?_⟩
    rintro _ _ _ w2 ⟨k, rfl, hk, rfl, hs2⟩
    refine bsel_of (fun hx => ?_) (fun hx => ?_)
    rotate_left
    · have hx : k = l.length := by have := of_decide_eq_false hx; omega
      rw [hx, List.take_length]
      exact ⟨rfl, hs2⟩
    have hx : k < l.length := by have := of_decide_eq_true hx; omega
    obtain ⟨b, wp, wc, rfl, c0, c1, c2, c3, c4, c5, hsw⟩ := (hv.still hs2).fields hx
    have hwk := wt_take hx
    have hpk := prL_len (l.take k)
    have hxw := l[k].wt_eq
    have hcl := core_len l[k]
    have hps := l[k].pr_len
    have hpw := prL_len l[k].w
    rw [Int.toNat_natCast]
    refine ⟨fun out w13 => out = prL (l.take (k + 1)) ∧ Still w w13, ⟨by omega, by omega, _, _, _, _, _, _, _, _, c0, c1, c2, c3, c4, c5, boxK rfl one6 fun w4 r4 s4 z4 => ?_⟩, ?_⟩
    rotate_left
    · rintro _ _ w13 ⟨rfl, h2⟩
      rw [show IntKind.i64.wrap ((k : Int) + 1) = ((k + 1 : Nat) : Int) by rw [wrap_i64 (by omega) (by omega)]; omega]
      exact ⟨⟨k + 1, rfl, hx, rfl, h2⟩, by dsimp only; omega⟩
    have hs4 := hs2.trans s4
    refine ⟨fun out s w6 => out = prL (l.take k) ∧ s = core l[k] ∧ l[k].k ≠ 0 ∧ Still w4 w6, ⟨_, r4.lget rfl, bsel_of (fun h => ⟨_, r4.lget rfl, _, r4.lget rfl, bsel_of (fun h1 => ?_) (fun h1 => ?_)⟩) (fun h => ?_)⟩, ?_⟩
    · refine (ref_single_spec l[k].t (by omega)).mono ?_
      rintro _ w5 ⟨rfl, rfl⟩
      have hsl := single_len l[k].t
      refine .inl ⟨_, rfl, by omega, ?_, hs4⟩
      rw [prL_take hx, pr_core, if_pos (of_decide_eq_true h), if_pos h1]
    · refine ⟨by omega, ?_, hs4⟩
      rw [prL_take hx, pr_core, if_pos (of_decide_eq_true h), if_neg (by rw [h1]; decide)]
    · have h : ¬ l[k].k = 0 := of_decide_eq_false h
      refine bsel_of (fun h2 => ?_) (fun h2 => bsel_of (fun h3 => ?_) (fun h3 => bsel_of (fun h4 => ?_) (fun h4 => ?_)))
      · refine ⟨_, r4.lget rfl, by simp only [List.length_cons, List.length_nil]; omega, by simp only [List.length_append, List.length_cons, List.length_nil]; omega, rfl, ?_, h, Still.refl _⟩
        rw [core, if_pos (of_decide_eq_true h2)]
      · refine ⟨_, r4.lget rfl, by simp only [List.length_cons, List.length_nil]; omega, by simp only [List.length_append, List.length_cons, List.length_nil]; omega, rfl, ?_, h, Still.refl _⟩
        rw [core, if_neg (of_decide_eq_false h2), if_pos (of_decide_eq_true h3)]
      · have rd : ∀ wq : World, Still w4 wq → Row wq w2.heap.size 39 ⟨pcell l[k] (.slice wp l[k].w.length wc)⟩ := fun wq hq => r4.still hq
        refine ⟨fun wq => Still w4 wq, drew_still w4, _, fun wq hq => (rd wq hq).lget rfl, by simp only [List.length_cons, List.length_nil]; omega, _, fun wq hq => (rd wq hq).lget rfl, by simp only [List.length_append, List.length_cons, List.length_nil]; omega, _, _, _, fun wq hq => (rd wq hq).lget rfl, ?_⟩
        refine (ih _ (by have := word_of hx; omega) (by have := wt_word hx; omega) w4.drew F _ ((hsw.still s4).still (drew_still w4))).mono ?_
        rintro _ w5 ⟨rfl, s5⟩
        have s45 := (drew_still w4).trans s5
        refine .inl ⟨_, rfl, s45, by simp only [List.length_append, List.length_cons, List.length_nil]; omega, by simp only [List.length_append, List.length_cons, List.length_nil]; omega, _, (rd _ s45).lget rfl, bsel_of (fun h5 => ?_) (fun h5 => ?_)⟩
        · refine ⟨_, (rd _ s45).lget rfl, by simp only [List.length_cons, List.length_nil]; omega, by simp only [List.length_append, List.length_cons, List.length_nil]; omega, rfl, ?_, h, s45⟩
          rw [core, if_neg (of_decide_eq_false h2), if_neg (of_decide_eq_false h3), if_pos (of_decide_eq_true h4), if_pos (of_decide_eq_true h5)]
        · refine ⟨rfl, ?_, h, s45⟩
          rw [core, if_neg (of_decide_eq_false h2), if_neg (of_decide_eq_false h3), if_pos (of_decide_eq_true h4), if_neg (of_decide_eq_false h5)]
      · refine ⟨rfl, ?_, h, Still.refl _⟩
        rw [core, if_neg (of_decide_eq_false h2), if_neg (of_decide_eq_false h3), if_neg (of_decide_eq_false h4)]
    · rintro _ _ _ w6 ⟨rfl, rfl, h, s6⟩
      refine ⟨_, (r4.still s6).lget rfl, bsel_of (fun h1 => ?_) (fun h1 => ?_)⟩
      · refine ⟨by simp only [List.length_cons, List.length_nil]; omega, by simp only [List.length_append, List.length_cons, List.length_nil]; omega, by simp only [List.length_append, List.length_cons, List.length_nil]; omega, ?_, hs4.trans s6⟩
        rw [prL_take hx, pr_core, if_neg h, wrapQ, if_pos h1]
        rfl
      · refine ⟨by omega, ?_, hs4.trans s6⟩
        rw [prL_take hx, pr_core, if_neg h, wrapQ, if_neg (by rw [h1]; decide)]
theorem ref_Print_spec {F : Nat → Prop} {l : List Pt} {v : Value} (hv : SlAt w F l v) (hl : wtL l < 1000000) : Calls Tryd.prog fn_ref08_Print #[v] w (fun e w' => e = .returned (.string (S (prL l))) ∧ Still w w') := ref_print_of _ l (Nat.lt_succ_self _) hl w F v hv
end Go.Proofs.YtckcdbkggaoomaaDoor
