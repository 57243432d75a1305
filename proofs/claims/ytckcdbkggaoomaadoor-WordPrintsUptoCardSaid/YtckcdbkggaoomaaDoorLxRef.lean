/- The lexer's reference: units. Conditions: texts of fewer than a million bytes. -/
import Derived.Test.YtckcdbkggaoomaaDoorLx
import Derived.Test.YtckcdbkggaoomaaDoorStrs
namespace Go.Proofs.YtckcdbkggaoomaaDoor
open Go.RowKit Vc
variable {w : World}

theorem begins_spec (s t : Txt) (n : Nat) (hn : n ≤ s.length) (hs : s.length < 1000000) (ht : t.length < 1000000) : Calls Tryd.prog fn_ref07_begins #[.string (S s), .int .i64 (n : Int), .string (S t)] w
    (fun e w' => e = .returned (.bool (pf t (s.drop n))) ∧ w' = w) := by
  refine ref07_begins_calls _ _ _ _ _ ?_
  have e1 : IntKind.i64.wrap ((n : Int) + (t.length : Int)) = ((n + t.length : Nat) : Int) := by rw [wrap_i64 (by omega) (by omega)]; omega
  unfold vc_ref07_begins
  rw [e1, Int.toNat_natCast, Int.toNat_natCast]
  refine bsel_of (fun h => ⟨by omega, by omega, by have := of_decide_eq_true h; omega, ?_, rfl⟩) (fun h => ⟨?_, rfl⟩)
  · have h := of_decide_eq_true h
    rw [show n + t.length - n = t.length by omega]
    unfold pf
    congr 2
    apply decide_eq_decide.2
    rw [List.length_drop]
    exact ⟨fun e => ⟨by omega, e⟩, fun e => e.2⟩
  · have h := of_decide_eq_false h
    unfold pf
    rw [decide_eq_false]
    rw [List.length_drop]
    intro e
    omega
def SkipR (d : Nat) : Prop := ∀ (w : World) (s : Txt) (n : Nat), n < s.length → s.length < 1000000 → Calls Tryd.prog fn_ref07_Skip #[.string (S s), .int .i64 (n : Int), .int .i64 (31 - (d : Int))] w (fun e w' => e = .returned (.int .i64 (ix s (unitD d (s.drop n)))) ∧ w' = w)
def UntilR (d : Nat) : Prop := ∀ (w : World) (s : Txt) (n : Nat) (c : UInt8), n ≤ s.length → s.length < 1000000 → Calls Tryd.prog fn_ref07_until #[.string (S s), .int .i64 (n : Int), .int .u8 (c.toNat : Int), .int .i64 (31 - (d : Int))] w (fun e w' => e = .returned (.int .i64 (ix s (untilD d c (s.drop n)))) ∧ w' = w)
theorem skip_of {d : Nat} (hd : d ≤ 31) (ih : d ≠ 0 → UntilR (d - 1)) : SkipR d := by
  intro w s n hn hs
  refine ref07_Skip_calls _ _ _ _ _ ?_
  refine bsel_of (fun h30 => ?_) (fun h30 => ?_)
  · have hd0 : d = 0 := by have := of_decide_eq_true h30; omega
    subst hd0
    exact ⟨rfl, rfl⟩
  have hd0 : d ≠ 0 := by have := of_decide_eq_false h30; omega
  obtain ⟨k, rfl⟩ : ∃ k, d = k + 1 := ⟨d - 1, by omega⟩
  have ih := ih hd0
  rw [Nat.add_sub_cancel] at ih
  have ed : IntKind.i64.wrap (31 - ((k + 1 : Nat) : Int) + 1) = 31 - (k : Int) := by rw [wrap_i64 (by omega) (by omega)]; omega
  have e1 : IntKind.i64.wrap ((n : Int) + 1) = ((n + 1 : Nat) : Int) := by rw [wrap_i64 (by omega) (by omega)]; omega
  have e2 : IntKind.i64.wrap ((n : Int) + 2) = ((n + 2 : Nat) : Int) := by rw [wrap_i64 (by omega) (by omega)]; omega
  have hdr : s.drop n = s[n] :: s.drop (n + 1) := List.drop_eq_getElem_cons hn
  have hu : unitD (k + 1) (s.drop n) = unitF (untilD k) (s[n] :: s.drop (n + 1)) := by rw [hdr]; rfl
  have hg : s[Int.toNat (n : Int)]? = some s[n] := by rw [Int.toNat_natCast]; exact getD_some hn
  rw [hu, ed, e1, e2]
  have unt : ∀ (m : Nat) (c : UInt8) (o : Option Txt), m ≤ s.length → untilD k c (s.drop m) = o → ∀ w0 : World, Calls Tryd.prog fn_ref07_until #[(.string (S s)), (.int .i64 (m : Int)), (.int .u8 (c.toNat : Int)), (.int .i64 (31 - (k : Int)))] w0 (fun ed w2 => (∃ r : Int, ed = .returned (.int .i64 r) ∧ Ending.returned (.int .i64 r) = .returned (.int .i64 (ix s o)) ∧ w2 = w0) ∨ (∃ ch, ed = .panicked ch ∧ Ending.panicked ch = .returned (.int .i64 (ix s o)) ∧ w2 = w0)) := by
    intro m c o hm ho w0
    refine (ih w0 s m c hm hs).mono ?_
    rintro _ w2 ⟨rfl, rfl⟩
    exact .inl ⟨_, rfl, by rw [ho], rfl⟩
  refine ⟨by omega, s[n], hg, bsel_of (fun h92 => ?_) (fun h92 => ⟨by omega, s[n], hg, bsel_of (fun h39 => ?_) (fun h39 => ⟨by omega, s[n], hg, bsel_of (fun h34 => ?_) (fun h34 => ?_)⟩)⟩)⟩
  · have h92 : s[n] = 92 := byte_eq.1 (of_decide_eq_true h92)
    simp only [unitF, if_pos h92]
    refine bsel_of (fun h => ?_) (fun h => ?_)
    · have h : n + 1 = s.length := by have := of_decide_eq_true h; omega
      rw [List.drop_of_length_le (by omega)]
      exact ⟨rfl, trivial⟩
    · have h : n + 1 < s.length := by have := of_decide_eq_false h; omega
      rw [List.drop_eq_getElem_cons h]
      exact ⟨by rw [ix_drop (by omega)], trivial⟩
  · have h92 : ¬ s[n] = 92 := fun e => of_decide_eq_false h92 (byte_eq.2 e)
    have h39 : s[n] = 39 := byte_eq.1 (of_decide_eq_true h39)
    simp only [unitF, if_neg h92, if_pos h39]
    refine ⟨fun i w1 => ∃ m : Nat, i = (m : Int) ∧ m ≤ s.length ∧ quoteEnd (s.drop m) = quoteEnd (s.drop (n + 1)) ∧ w1 = w, fun i _ => s.length - i.toNat, ⟨n + 1, rfl, hn, rfl, rfl⟩, ?_⟩
    rintro _ _ w1 ⟨m, rfl, hm, hq, rfl⟩
    rw [← hq]
    have em : IntKind.i64.wrap ((m : Int) + 1) = ((m + 1 : Nat) : Int) := by rw [wrap_i64 (by omega) (by omega)]; omega
    rw [em]
    refine bsel_of (fun hx => ?_) (fun hx => ?_)
    · have hx : m < s.length := by have := of_decide_eq_true hx; omega
      have hdm : s.drop m = s[m] :: s.drop (m + 1) := List.drop_eq_getElem_cons hx
      refine ⟨by omega, s[m], by rw [Int.toNat_natCast]; exact getD_some hx, bsel_of (fun h => ?_) (fun h => ⟨⟨m + 1, rfl, hx, ?_, rfl⟩, by dsimp only; omega⟩)⟩
      · have h : s[m] = 39 := byte_eq.1 (of_decide_eq_true h)
        rw [hdm]
        simp only [quoteEnd, if_pos h]
        exact ⟨by rw [ix_drop (by omega)], trivial⟩
      · have h : ¬ s[m] = 39 := fun e => of_decide_eq_false h (byte_eq.2 e)
        rw [hdm]
        simp only [quoteEnd, if_neg h]
    · have hx : m = s.length := by have := of_decide_eq_false hx; omega
      rw [List.drop_of_length_le (by omega)]
      exact ⟨rfl, rfl⟩
  · have h92 : ¬ s[n] = 92 := fun e => of_decide_eq_false h92 (byte_eq.2 e)
    have h39 : ¬ s[n] = 39 := fun e => of_decide_eq_false h39 (byte_eq.2 e)
    have h34 : s[n] = 34 := byte_eq.1 (of_decide_eq_true h34)
    simp only [unitF, if_neg h92, if_neg h39, if_pos h34]
    exact unt (n + 1) 34 _ hn rfl w
  · have h92 : ¬ s[n] = 92 := fun e => of_decide_eq_false h92 (byte_eq.2 e)
    have h39 : ¬ s[n] = 39 := fun e => of_decide_eq_false h39 (byte_eq.2 e)
    have h34 : ¬ s[n] = 34 := fun e => of_decide_eq_false h34 (byte_eq.2 e)
    simp only [unitF, if_neg h92, if_neg h39, if_neg h34]
    refine (begins_spec s [36, 40] n (by omega) hs (by decide)).mono ?_
    rintro _ w3 ⟨rfl, rfl⟩
    rw [hdr, pf_two]
    refine .inl ⟨_, rfl, ?_⟩
    rcases Nat.lt_or_ge (n + 1) s.length with h1 | h1
    · have hd2 : s.drop (n + 1) = s[n + 1] :: s.drop (n + 2) := List.drop_eq_getElem_cons h1
      rw [hd2]
      dsimp only [dollar]
      refine bsel_of (fun h40 => ?_) (fun h40 => (begins_spec s [36, 123] n (by omega) hs (by decide)).mono ?_)
      · rw [if_pos (of_decide_eq_true h40)]
        exact unt (n + 2) 41 _ h1 rfl w3
      · rintro _ w4 ⟨rfl, rfl⟩
        rw [hdr, pf_two, hd2]
        dsimp only
        rw [if_neg (of_decide_eq_false h40)]
        refine .inl ⟨_, rfl, bsel_of (fun h123 => ?_) (fun h123 => ?_)⟩
        · rw [if_pos (of_decide_eq_true h123)]
          exact unt (n + 2) 125 _ h1 rfl w4
        · rw [if_neg (of_decide_eq_false h123), ← hd2]
          exact ⟨by rw [ix_drop (by omega)], rfl⟩
    · have hd2 : s.drop (n + 1) = [] := List.drop_of_length_le h1
      rw [hd2]
      dsimp only [dollar]
      refine bsel_of (fun h40 => by cases h40) (fun h40 => (begins_spec s [36, 123] n (by omega) hs (by decide)).mono ?_)
      rintro _ w4 ⟨rfl, rfl⟩
      rw [hdr, pf_two, hd2]
      refine .inl ⟨_, rfl, bsel_of (fun h123 => by cases h123) (fun h123 => ?_)⟩
      rw [← hd2]
      exact ⟨by rw [ix_drop (by omega)], rfl⟩
theorem untilr_of {d : Nat} (hd : d ≤ 31) (hu : SkipR d) (ih : d ≠ 0 → UntilR (d - 1)) : UntilR d := by
  intro w s n c hn hs
  refine ref07_until_calls _ _ _ _ _ _ ?_
  refine ⟨fun i w1 => ∃ m : Nat, i = (m : Int) ∧ m ≤ s.length ∧ untilD d c (s.drop m) = untilD d c (s.drop n) ∧ w1 = w, fun i _ => s.length - i.toNat, ⟨n, rfl, hn, rfl, rfl⟩, ?_⟩
  rintro _ _ w1 ⟨m, rfl, hm, hq, rfl⟩
  rw [← hq]
  have em : IntKind.i64.wrap ((m : Int) + 1) = ((m + 1 : Nat) : Int) := by rw [wrap_i64 (by omega) (by omega)]; omega
  rw [em]
  refine bsel_of (fun hx => ?_) (fun hx => ?_)
  case _ =>
    have hx : m < s.length := by have := of_decide_eq_true hx; omega
    have hdm : s.drop m = s[m] :: s.drop (m + 1) := List.drop_eq_getElem_cons hx
    have hg : s[Int.toNat (m : Int)]? = some s[m] := by rw [Int.toNat_natCast]; exact getD_some hx
    rw [hdm, untilD_cons]
    have hq' := hq
    rw [hdm, untilD_cons] at hq'
    refine ⟨by omega, s[m], hg, bsel_of (fun hb => ?_) (fun hb => ?_)⟩
    · have hb : s[m] = c := byte_eq.1 (of_decide_eq_true hb)
      rw [if_pos hb]
      exact ⟨by rw [ix_drop (by omega)], rfl⟩
    · have hb : ¬ s[m] = c := fun e => of_decide_eq_false hb (byte_eq.2 e)
      rw [if_neg hb] at hq' ⊢
      -- next: where it goes on
      refine ⟨fun nx w6 => ∃ o : Option Txt, nx = ix s o ∧ (∀ t, o = some t → t <:+ s ∧ t.length < s.length - m) ∧ o.bind (untilD d c) = untilD d c (s.drop n) ∧ w6 = w1, ⟨fun x w2 => x = decide (c = 34 ∧ s[m] = 39) ∧ w2 = w1, bsel_of (fun hc => ⟨by omega, s[m], hg, ?_, rfl⟩) (fun hc => ⟨?_, rfl⟩), ?_⟩, ?_⟩
      · have hc : c = 34 := byte_eq.1 (of_decide_eq_true hc)
        apply decide_eq_decide.2
        exact ⟨fun h => ⟨hc, byte_eq.1 h⟩, fun h => byte_eq.2 h.2⟩
      · rw [decide_eq_false (fun h => of_decide_eq_false hc (byte_eq.2 h.1))]
      · rintro _ _ w2 ⟨rfl, rfl⟩
        have unit : (unitD d (s[m] :: s.drop (m + 1))).bind (untilD d c) = untilD d c (s.drop n) → Calls Tryd.prog fn_ref07_Skip #[(.string (S s)), (.int .i64 (m : Int)), (.int .i64 (31 - (d : Int)))] w2 (fun ed1 w4 => (∃ r1 : Int, ed1 = .returned (.int .i64 r1) ∧ ∃ o : Option Txt, r1 = ix s o ∧ (∀ t, o = some t → t <:+ s ∧ t.length < s.length - m) ∧ o.bind (untilD d c) = untilD d c (s.drop n) ∧ w4 = w2) ∨ (∃ ch1, ed1 = .panicked ch1 ∧ Ending.panicked ch1 = .returned (.int .i64 (ix s (if c = 34 ∧ s[m] = 39 then if d = 0 then none else untilD d c (s.drop (m + 1)) else if c = 41 ∧ s[m] = 40 then if d = 0 then none else (untilD (d - 1) 41 (s.drop (m + 1))).bind (untilD d c) else (unitD d (s[m] :: s.drop (m + 1))).bind (untilD d c)))) ∧ w4 = w2)) := by
          intro ho
          refine (hu w2 s m hx hs).mono ?_
          rintro _ w4 ⟨rfl, rfl⟩
          refine .inl ⟨_, rfl, unitD d (s.drop m), rfl, fun t ht => ⟨(unitD_ends d _ _ ht).trans (drop_suf s m), ?_⟩, by rw [hdm]; exact ho, rfl⟩
          have := unitD_takes d _ _ ht
          rw [List.length_drop] at this
          exact this
        refine bsel_of (fun hqq => ?_) (fun hqq => ?_)
        · have hqq := of_decide_eq_true hqq
          rw [if_pos hqq] at hq' ⊢
          refine bsel_of (fun h30 => ?_) (fun h30 => ?_)
          · have hd0 : d = 0 := by have := of_decide_eq_true h30; omega
            rw [if_pos hd0]
            exact ⟨rfl, rfl⟩
          · have hd0 : ¬ d = 0 := by have := of_decide_eq_false h30; omega
            rw [if_neg hd0] at hq'
            refine ⟨some (s.drop (m + 1)), by rw [ix_drop (by omega)], fun t ht => ?_, hq', rfl⟩
            obtain rfl := Option.some.inj ht
            refine ⟨drop_suf _ _, ?_⟩
            rw [List.length_drop]
            omega
        · have hqq := of_decide_eq_false hqq
          rw [if_neg hqq] at hq'
          refine bsel_of (fun hc => ⟨by omega, s[m], hg, bsel_of (fun hb40 => ?_) (fun hb40 => ?_)⟩) (fun hc => ?_)
          · have hc : c = 41 := byte_eq.1 (of_decide_eq_true hc)
            have hb40 : s[m] = 40 := byte_eq.1 (of_decide_eq_true hb40)
            rw [if_pos ⟨hc, hb40⟩] at hq'
            refine bsel_of (fun h30 => ?_) (fun h30 => ?_)
            · have hd0 : ¬ d = 0 := by have := of_decide_eq_true h30; omega
              rw [if_neg hd0] at hq'
              have e1 : IntKind.i64.wrap (31 - (d : Int) + 1) = 31 - ((d - 1 : Nat) : Int) := by rw [wrap_i64 (by omega) (by omega)]; omega
              rw [e1]
              refine (ih hd0 w2 s (m + 1) 41 hx hs).mono ?_
              rintro _ w3 ⟨rfl, rfl⟩
              refine .inl ⟨_, rfl, untilD (d - 1) 41 (s.drop (m + 1)), rfl, fun t ht => ⟨(untilD_ends (d - 1) 41 _ _ ht).trans (drop_suf s (m + 1)), ?_⟩, hq', rfl⟩
              have := untilD_takes (d - 1) 41 _ _ ht
              rw [List.length_drop] at this
              omega
            · have hd0 : d = 0 := by have := of_decide_eq_false h30; omega
              rw [if_pos hd0] at hq'
              exact ⟨none, rfl, (fun t ht => by cases ht), hq', rfl⟩
          · have hb40 : ¬ s[m] = 40 := fun e => of_decide_eq_false hb40 (byte_eq.2 e)
            rw [if_neg (fun h => hb40 h.2)] at hq'
            exact unit hq'
          · have hc : ¬ c = 41 := fun e => of_decide_eq_false hc (byte_eq.2 e)
            rw [if_neg (fun h => hc h.1)] at hq'
            exact unit hq'
      · rintro _ _ w6 ⟨o, rfl, ho1, ho2, rfl⟩
        rw [hq']
        cases o with
        | none =>
          refine bsel_of (fun _ => ⟨?_, rfl⟩) (fun h => by have := of_decide_eq_false h; simp [ix] at this)
          rw [← ho2]
          rfl
        | some t =>
          obtain ⟨h1, h2⟩ := ho1 t rfl
          have hle := h1.length_le
          refine bsel_of (fun h => ?_) (fun _ => ⟨⟨s.length - t.length, rfl, by omega, ?_, rfl⟩, ?_⟩)
          · have h := of_decide_eq_true h
            simp only [ix] at h
            omega
          · rw [← suf_drop h1]
            exact ho2
          · simp only [ix]
            omega
  · have hx : m = s.length := by have := of_decide_eq_false hx; omega
    rw [List.drop_of_length_le (by omega), untilD_nil]
    exact ⟨rfl, rfl⟩
theorem levelsR : ∀ d, d ≤ 31 → SkipR d ∧ UntilR d
  | 0, h => ⟨skip_of h (fun h => absurd rfl h), untilr_of h (skip_of h (fun h => absurd rfl h)) (fun h => absurd rfl h)⟩
  | d + 1, h => by
    have ih := (levelsR d (by omega)).2
    have hu : SkipR (d + 1) := skip_of h (fun _ => ih)
    exact ⟨hu, untilr_of h hu (fun _ => ih)⟩
theorem ref_skip_spec (s : Txt) (n : Nat) (hn : n < s.length) (hs : s.length < 1000000) : Calls Tryd.prog fn_ref07_Skip #[.string (S s), .int .i64 (n : Int), .int .i64 1] w (fun e w' => e = .returned (.int .i64 (ix s (unitD 30 (s.drop n)))) ∧ w' = w) :=
  (levelsR 30 (by decide)).1 w s n hn hs
end Go.Proofs.YtckcdbkggaoomaaDoor
