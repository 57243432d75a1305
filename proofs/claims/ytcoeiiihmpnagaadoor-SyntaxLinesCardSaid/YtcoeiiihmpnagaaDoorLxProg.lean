/- The lexer's scanner: units, function for function. Conditions: as each theorem names them. -/
import Derived.Test.YtcoeiiihmpnagaaDoorM2
import Derived.Test.YtcoeiiihmpnagaaDoorStrs
import Derived.Test.YtcoeiiihmpnagaaDoorShelf
namespace Go.Proofs.YtcoeiiihmpnagaaDoor
open Go.RowKit Vc
variable {w : World}

/-- The scanner's text. -/
abbrev Scan (w : World) (g : Nat) (s : Txt) : Prop := Row w g 59 ⟨[.string (S s)]⟩
abbrev Only (g : Nat) (w w' : World) : Prop := Mod (fun i => i = g) w w'
theorem Only.trans {g : Nat} {a b c : World} (h : Only g a b) (k : Only g b c) : Only g a c := Mod.trans h k (fun _ h => h) (fun _ _ h => h)
/-- The panic of what does not end. -/
def quoteP : List PanicEntry := [{ v := .iface 33 (.int .i64 80), recovered := false }]
/-- What taking from a text comes to. -/
def Took (g : Nat) (w : World) (o : Option Txt) (e : Ending) (w' : World) : Prop :=
  Only g w w' ∧ match o with
    | some t => e = .returned (.tuple #[]) ∧ Scan w' g t
    | none => e = .panicked quoteP ∧ ∃ t, Scan w' g t

theorem want_spec (ok : Bool) : Calls Tryd.prog fn_lexer_want #[.bool ok] w (fun e w' => e = (if ok = true then .returned (.tuple #[]) else .panicked quoteP) ∧ w' = w) := by
  refine lexer_want_calls _ _ _ ?_
  exact bsel_of (fun h => by have : ok = false := by simpa using h
                             subst this; exact ⟨rfl, rfl⟩) (fun h => by have : ok = true := by simpa using h
                                                                        subst this; exact ⟨rfl, rfl⟩)
theorem Scan.cell {g : Nat} {s : Txt} (h : Scan w g s) : w.cell? ⟨g, 0, none⟩ = some (.string (S s)) := h.cellv rfl
theorem Scan.put {g : Nat} {s : Txt} (h : Scan w g s) (t : Txt) : Scan (w.setCell ⟨g, 0, none⟩ (.string (S t))) g t := h.setl 0 _
theorem Only.put {g : Nat} (t : Value) : Only g w (w.setCell ⟨g, 0, none⟩ t) := (Mod.refl (fun i => i = g) w).setCell (p := ⟨g, 0, none⟩) (.inl rfl) _
theorem skip_spec {g : Nat} {s : Txt} (h : Scan w g s) (n : Nat) : Calls Tryd.prog fn_lexer_scanner_skip #[.pointer (some ⟨g, 0, none⟩), .int .i64 (n : Int)] w
    (fun e w' => Took g w (if n ≤ s.length then some (s.drop n) else none) e w') := by
  refine lexer_scanner_skip_calls _ _ _ _ ?_
  refine ⟨_, h.cell, (want_spec _).mono ?_⟩
  rintro _ w1 ⟨rfl, rfl⟩
  by_cases hn : n ≤ s.length
  · rw [if_pos hn, if_pos (decide_eq_true (by omega))]
    refine .inl ⟨rfl, _, h.cell, by omega, by omega, h.wr 0 (by simp), Only.put _, rfl, ?_⟩
    rw [Int.toNat_natCast]
    exact h.put _
  · rw [if_neg hn, if_neg (by simp; omega)]
    exact .inr ⟨_, rfl, Mod.refl _ _, rfl, s, h⟩
/-- A call, and the next one, of takings. -/
theorem Took.next {g : Nat} {o : Option Txt} {e : Ending} {w1 w' : World} (hm : Only g w w1) (h : Took g w1 o e w') : Took g w o e w' := ⟨hm.trans h.1, h.2⟩
theorem Took.on {g : Nat} {o : Option Txt} {f : Txt → Option Txt} {e : Ending} {w1 : World} {R : Ending → World → Prop} (hr : ∀ e w', Took g w (o.bind f) e w' → R e w') (h : Took g w o e w1) {K : World → Prop}
    (hk : ∀ t, o = some t → Only g w w1 → Scan w1 g t → (∀ e w', Took g w1 (f t) e w' → R e w') → K w1) : (e = .returned (.tuple #[]) ∧ K w1) ∨ (∃ ch, e = .panicked ch ∧ R (.panicked ch) w1) := by
  obtain ⟨hm, h⟩ := h
  cases o with
  | none =>
    obtain ⟨rfl, ht⟩ := h
    exact .inr ⟨_, rfl, hr _ _ ⟨hm, rfl, ht⟩⟩
  | some t =>
    obtain ⟨rfl, ht⟩ := h
    exact .inl ⟨rfl, hk t rfl hm ht (fun e w' h => hr _ _ (Took.next hm h))⟩
theorem indexQuote : ∀ s : Txt, (if 0 ≤ Go.Lib.indexByte s 39 then some (s.drop (Go.Lib.indexByte s 39 + 1).toNat) else none) = quoteEnd s ∧ (0 ≤ Go.Lib.indexByte s 39 → Go.Lib.indexByte s 39 < s.length) ∧ -1 ≤ Go.Lib.indexByte s 39
  | [] => ⟨rfl, by decide, by decide⟩
  | a :: r => by
    obtain ⟨h1, h2, h3⟩ := indexQuote r
    simp only [Go.Lib.indexByte, quoteEnd, beq_iff_eq]
    by_cases ha : a = 39
    · rw [if_pos ha, if_pos ha]
      refine ⟨rfl, fun _ => by simp only [List.length_cons]; omega, by decide⟩
    · rw [if_neg ha, if_neg ha, ← h1]
      by_cases hr : Go.Lib.indexByte r 39 = -1
      · rw [if_pos hr, hr]
        exact ⟨rfl, fun h => absurd h (by decide), by decide⟩
      · rw [if_neg hr, if_pos (by omega), if_pos (by omega)]
        refine ⟨?_, fun _ => by simp only [List.length_cons]; have := h2 (by omega); omega, by omega⟩
        congr 1
        rw [show (Go.Lib.indexByte r 39 + 1 + 1).toNat = (Go.Lib.indexByte r 39 + 1).toNat + 1 by omega, List.drop_succ_cons]

/-- What a unit comes to at a level. -/
def UnitAt (d : Nat) : Prop := ∀ (w : World) (g : Nat) (s : Txt), s ≠ [] → Scan w g s → s.length < 1000000 → Calls Tryd.prog fn_lexer_scanner_unit #[.pointer (some ⟨g, 0, none⟩), .int .i64 (31 - (d : Int))] w (fun e w' => Took g w (unitD d s) e w')
def UntilAt (d : Nat) : Prop := ∀ (w : World) (g : Nat) (s : Txt) (c : UInt8), Scan w g s → s.length < 1000000 → Calls Tryd.prog fn_lexer_scanner_until #[.pointer (some ⟨g, 0, none⟩), .int .u8 (c.toNat : Int), .int .i64 (31 - (d : Int))] w (fun e w' => Took g w (untilD d c s) e w')

set_option maxHeartbeats 1000000 in
theorem unit_of {d : Nat} (hd : d ≤ 31) (ih : d ≠ 0 → UntilAt (d - 1)) : UnitAt d := by
  intro w g s hs h hlen
  refine lexer_scanner_unit_calls _ _ _ _ ?_
  refine (want_spec _).mono ?_
  rintro _ w1 ⟨rfl, rfl⟩
  by_cases hd0 : d = 0
  · subst hd0
    rw [if_neg (by simp), unitD_zero]
    exact .inr ⟨_, rfl, Mod.refl _ _, rfl, s, h⟩
  obtain ⟨k, rfl⟩ : ∃ k, d = k + 1 := ⟨d - 1, by omega⟩
  have ih := ih hd0
  rw [Nat.add_sub_cancel] at ih
  have e1 : IntKind.i64.wrap (31 - ((k + 1 : Nat) : Int) + 1) = 31 - (k : Int) := by rw [wrap_i64 (by omega) (by omega)]; omega
  rw [if_pos (decide_eq_true (by omega)), e1]
  obtain ⟨a, r, rfl⟩ := List.exists_cons_of_ne_nil hs
  simp only [List.length_cons] at hlen
  have hu : unitD (k + 1) (a :: r) = unitF (untilD k) (a :: r) := rfl
  rw [hu]
  -- a skip, and what ends
  have into : ∀ (n : Nat) (c : UInt8) (s2 : Txt), n ≤ (a :: r).length → (a :: r).drop n = s2 → ∀ R : Ending → World → Prop, (∀ e w', Took g w1 (untilD k c s2) e w' → R e w') →
      Calls Tryd.prog fn_lexer_scanner_skip #[(.pointer (some ⟨g, 0, none⟩)), (.int .i64 (n : Int))] w1 (fun ed5 w6 => (ed5 = .returned (.tuple #[]) ∧ Calls Tryd.prog fn_lexer_scanner_until #[(.pointer (some ⟨g, 0, none⟩)), (.int .u8 (c.toNat : Int)), (.int .i64 (31 - (k : Int)))] w6 (fun ed6 w7 => (ed6 = .returned (.tuple #[]) ∧ R (.returned (.tuple #[])) w7) ∨ (∃ ch6, ed6 = .panicked ch6 ∧ R (.panicked ch6) w7))) ∨ (∃ ch5, ed5 = .panicked ch5 ∧ R (.panicked ch5) w6)) := by
    intro n c s2 hn hdrop R hR
    refine (skip_spec h n).mono fun e w6 ht => ?_
    rw [if_pos hn, hdrop] at ht
    obtain ⟨hm, rfl, hs2⟩ := ht
    have hl2 : s2.length < 1000000 := by
      rw [← hdrop]
      simp only [List.length_drop, List.length_cons]
      omega
    refine .inl ⟨rfl, (ih w6 g s2 c hs2 hl2).mono fun e w7 ht => ?_⟩
    have ht := Took.next hm ht
    cases ho : untilD k c s2 with
    | none =>
      rw [ho] at ht
      obtain ⟨hm2, rfl, h3⟩ := ht
      exact .inr ⟨_, rfl, hR _ _ (by rw [ho]; exact ⟨hm2, rfl, h3⟩)⟩
    | some t =>
      rw [ho] at ht
      obtain ⟨hm2, rfl, h3⟩ := ht
      exact .inl ⟨rfl, hR _ _ (by rw [ho]; exact ⟨hm2, rfl, h3⟩)⟩
  have justSkip : ∀ (n : Nat) (o : Option Txt), (if n ≤ (a :: r).length then some ((a :: r).drop n) else none) = o → ∀ R : Ending → World → Prop, (∀ e w', Took g w1 o e w' → R e w') →
      Calls Tryd.prog fn_lexer_scanner_skip #[(.pointer (some ⟨g, 0, none⟩)), (.int .i64 (n : Int))] w1 (fun ed5 w6 => (ed5 = .returned (.tuple #[]) ∧ R (.returned (.tuple #[])) w6) ∨ (∃ ch5, ed5 = .panicked ch5 ∧ R (.panicked ch5) w6)) := by
    intro n o ho R hR
    refine (skip_spec h n).mono fun e w6 ht => ?_
    rw [ho] at ht
    cases o with
    | none =>
      obtain ⟨hm2, rfl, h3⟩ := ht
      exact .inr ⟨_, rfl, hR _ _ ⟨hm2, rfl, h3⟩⟩
    | some t =>
      obtain ⟨hm2, rfl, h3⟩ := ht
      exact .inl ⟨rfl, hR _ _ ⟨hm2, rfl, h3⟩⟩
  refine .inl ⟨rfl, _, h.cell, by decide, a, rfl, bsel_of (fun h92 => ?_) (fun h92 => ⟨_, h.cell, by decide, a, rfl, bsel_of (fun h39 => ?_) (fun h39 => ⟨_, h.cell, by decide, a, rfl, bsel_of (fun h34 => ?_) (fun h34 => ⟨_, h.cell, ?_⟩)⟩)⟩)⟩
  · have h92 : a = 92 := byte_eq.1 (of_decide_eq_true h92)
    refine justSkip 2 _ ?_ _ (fun e w' h => h)
    simp only [unitF, if_pos h92]
    cases r with
    | nil => rfl
    | cons b t => simp
  · have h92 : ¬ a = 92 := fun e => of_decide_eq_false h92 (byte_eq.2 e)
    have h39 : a = 39 := byte_eq.1 (of_decide_eq_true h39)
    refine ⟨_, h.cell, by decide, by simp only [List.length_cons]; omega, ?_⟩
    have hq : unitF (untilD k) (a :: r) = quoteEnd r := by simp only [unitF, if_neg h92, if_pos h39]
    rw [hq]
    obtain ⟨i1, i2, i3⟩ := indexQuote r
    refine (Tryd.strings_IndexByte (S r) 39 _).mono ?_
    rintro _ w3 ⟨rfl, rfl⟩
    have hix : Go.Lib.indexByte (S r).data.toList (Int.toNat 39).toUInt8 = Go.Lib.indexByte r 39 := rfl
    rw [hix]
    generalize Go.Lib.indexByte r 39 = ix at i1 i2 i3
    refine .inl ⟨_, rfl, (want_spec _).mono ?_⟩
    rintro _ w4 ⟨rfl, rfl⟩
    by_cases h0 : 0 ≤ ix
    · obtain ⟨n, rfl⟩ := Int.eq_ofNat_of_zero_le h0
      have i2 := i2 h0
      have e2 : IntKind.i64.wrap ((n : Int) + 2) = ((n + 2 : Nat) : Int) := by rw [wrap_i64 (by omega) (by omega)]; omega
      rw [if_pos (decide_eq_true h0), e2]
      refine .inl ⟨rfl, justSkip (n + 2) _ ?_ _ (fun e w' h => h)⟩
      rw [← i1, if_pos h0, if_pos (by simp only [List.length_cons]; omega), show ((n : Int) + 1).toNat = n + 1 by omega]
      rfl
    · rw [if_neg (by simpa using h0)]
      refine .inr ⟨_, rfl, ?_⟩
      rw [← i1, if_neg h0]
      exact ⟨Mod.refl _ _, rfl, _, h⟩
  · have h92 : ¬ a = 92 := fun e => of_decide_eq_false h92 (byte_eq.2 e)
    have h39 : ¬ a = 39 := fun e => of_decide_eq_false h39 (byte_eq.2 e)
    have h34 : a = 34 := byte_eq.1 (of_decide_eq_true h34)
    have hq : unitF (untilD k) (a :: r) = untilD k 34 r := by simp only [unitF, if_neg h92, if_neg h39, if_pos h34]
    rw [hq]
    exact into 1 34 r (by simp) rfl _ (fun e w' h => h)
  · have h92 : ¬ a = 92 := fun e => of_decide_eq_false h92 (byte_eq.2 e)
    have h39 : ¬ a = 39 := fun e => of_decide_eq_false h39 (byte_eq.2 e)
    have h34 : ¬ a = 34 := fun e => of_decide_eq_false h34 (byte_eq.2 e)
    have hq : unitF (untilD k) (a :: r) = dollar (untilD k) a r := by simp only [unitF, if_neg h92, if_neg h39, if_neg h34]
    rw [hq]
    have hp : ∀ x : UInt8, Go.Lib.hasPrefix (S (a :: r)).data.toList (S [36, x]).data.toList = (match r with
      | b :: _ => decide (a = 36 ∧ b = x)
      | [] => false) := by
      intro x
      show List.isPrefixOf [36, x] (a :: r) = _
      cases r with
      | nil => simp [List.isPrefixOf]
      | cons b t =>
        simp only [List.isPrefixOf, Bool.and_true]
        by_cases h1 : a = 36
        · by_cases h2 : b = x
          · simp [h1, h2]
          · have : ¬ x = b := fun e => h2 e.symm
            simp [h1, h2, this]
        · have : ¬ 36 = a := fun e => h1 e.symm
          simp [h1, this]
    refine (Tryd.strings_HasPrefix (S (a :: r)) (S [36, 40]) _).mono ?_
    rintro _ w3 ⟨rfl, rfl⟩
    rw [hp 40]
    refine .inl ⟨_, rfl, bsel_of (fun h40 => ?_) (fun h40 => ⟨_, h.cell, (Tryd.strings_HasPrefix (S (a :: r)) (S [36, 123]) _).mono ?_⟩)⟩
    · cases r with
      | nil => cases h40
      | cons b t =>
        have h40 := of_decide_eq_true h40
        simp only [dollar, if_pos h40]
        exact into 2 41 t (by simp) rfl _ (fun e w' h => h)
    · rintro _ w4 ⟨rfl, rfl⟩
      rw [hp 123]
      refine .inl ⟨_, rfl, bsel_of (fun h123 => ?_) (fun h123 => ?_)⟩
      · cases r with
        | nil => cases h123
        | cons b t =>
          have h40 := of_decide_eq_false h40
          have h123 := of_decide_eq_true h123
          simp only [dollar, if_neg h40, if_pos h123]
          exact into 2 125 t (by simp) rfl _ (fun e w' h => h)
      · refine justSkip 1 _ ?_ _ (fun e w' h => h)
        cases r with
        | nil => rfl
        | cons b t =>
          have h40 := of_decide_eq_false h40
          have h123 := of_decide_eq_false h123
          simp only [dollar, if_neg h40, if_neg h123]
          simp
def scanLen (g : Nat) (w : World) : Nat := match w.cell? ⟨g, 0, none⟩ with
  | some (.string s) => s.data.size
  | _ => 0
theorem Scan.len {g : Nat} {s : Txt} (h : Scan w g s) : scanLen g w = s.length := by
  unfold scanLen
  rw [h.cell]
  rfl
set_option maxHeartbeats 1000000 in
theorem until_of {d : Nat} (hd : d ≤ 31) (hu : UnitAt d) (ih : d ≠ 0 → UntilAt (d - 1)) : UntilAt d := by
  intro w g s c h hlen
  refine lexer_scanner_until_calls _ _ _ _ _ ?_
  refine ⟨fun w1 => ∃ s1, Scan w1 g s1 ∧ Only g w w1 ∧ untilD d c s1 = untilD d c s ∧ s1.length ≤ s.length, scanLen g, ⟨s, h, Mod.refl _ _, rfl, Nat.le_refl _⟩, ?_⟩
  rintro _ w1 ⟨s1, h1, hm1, he, hl⟩
  rw [← he]
  refine ⟨_, h1.cell, (want_spec _).mono ?_⟩
  rintro _ w2 ⟨rfl, rfl⟩
  cases s1 with
  | nil =>
    rw [if_neg (by simp), untilD_nil]
    exact .inr ⟨_, rfl, hm1, rfl, _, h1⟩
  | cons b r =>
    rw [if_pos (by simp)]
    rw [untilD_cons] at he ⊢
    simp only [List.length_cons] at hl
    refine .inl ⟨rfl, _, h1.cell, by decide, b, rfl, bsel_of (fun hb => ?_) (fun hb => ?_)⟩
    · have hb : b = c := byte_eq.1 (of_decide_eq_true hb)
      rw [if_pos hb]
      refine (skip_spec h1 1).mono fun e w3 ht => ?_
      rw [if_pos (by simp)] at ht
      obtain ⟨hm3, rfl, h3⟩ := ht
      exact .inl ⟨rfl, hm1.trans hm3, rfl, h3⟩
    · have hb : ¬ b = c := fun e => of_decide_eq_false hb (byte_eq.2 e)
      rw [if_neg hb] at he ⊢
      -- what goes on behind a taking
      have on : ∀ (o : Option Txt) (e : Ending) (w3 : World), Took g w2 o e w3 → o.bind (untilD d c) = untilD d c s → (∀ t, o = some t → t.length ≤ r.length) →
          (e = .returned (.tuple #[]) ∧ (∃ s1, Scan w3 g s1 ∧ Only g w w3 ∧ untilD d c s1 = untilD d c s ∧ s1.length ≤ s.length) ∧ scanLen g w3 < scanLen g w2) ∨ (∃ ch, e = .panicked ch ∧ Took g w (untilD d c s) (.panicked ch) w3) := by
        intro o e w3 ht ho hlo
        obtain ⟨hm3, ht⟩ := ht
        cases o with
        | none =>
          obtain ⟨rfl, h3⟩ := ht
          refine .inr ⟨_, rfl, hm1.trans hm3, ?_⟩
          rw [← ho]
          exact ⟨rfl, h3⟩
        | some t =>
          obtain ⟨rfl, h3⟩ := ht
          have := hlo t rfl
          refine .inl ⟨rfl, ⟨t, h3, hm1.trans hm3, ho, by omega⟩, ?_⟩
          rw [h3.len, h1.len]
          simp only [List.length_cons]
          omega
      have hrl : r.length < 1000000 := by omega
      have unit : (unitD d (b :: r)).bind (untilD d c) = untilD d c s → Calls Tryd.prog fn_lexer_scanner_unit #[(.pointer (some ⟨g, 0, none⟩)), (.int .i64 (31 - (d : Int)))] w2 (fun ed7 w10 => (ed7 = .returned (.tuple #[]) ∧ (∃ s1, Scan w10 g s1 ∧ Only g w w10 ∧ untilD d c s1 = untilD d c s ∧ s1.length ≤ s.length) ∧ scanLen g w10 < scanLen g w2) ∨ (∃ ch7, ed7 = .panicked ch7 ∧ Took g w (untilD d c s) (.panicked ch7) w10)) := by
        intro ho
        refine (hu w2 g (b :: r) (List.cons_ne_nil _ _) h1 (by simp only [List.length_cons]; omega)).mono fun e w3 ht => ?_
        refine on _ e w3 ht ho fun t ht => ?_
        have := unitD_takes d _ _ ht
        simp only [List.length_cons] at this
        omega
      have wd : decide (31 - (d : Int) ≤ 30) = decide (d ≠ 0) := by
        apply decide_eq_decide.2
        omega
      rw [wd]
      have hres : untilD d c s = (if c = 34 ∧ b = 39 then (if d = 0 then none else untilD d c r) else if c = 41 ∧ b = 40 then (if d = 0 then none else (untilD (d - 1) 41 r).bind (untilD d c)) else (unitD d (b :: r)).bind (untilD d c)) := he.symm
      rw [he]
      refine ⟨fun x w4 => x = decide (c = 34 ∧ b = 39) ∧ w4 = w2, bsel_of (fun hc => ⟨?_, rfl⟩) (fun hc => ⟨?_, rfl⟩), ?_⟩
      · have hc : c = 34 := byte_eq.1 (of_decide_eq_true hc)
        apply decide_eq_decide.2
        exact ⟨fun h => ⟨hc, byte_eq.1 h⟩, fun h => byte_eq.2 h.2⟩
      · rw [decide_eq_false (fun h => of_decide_eq_false hc (byte_eq.2 h.1))]
      rintro _ _ w4 ⟨rfl, rfl⟩
      refine bsel_of (fun hq => ?_) (fun hq => ?_)
      · have hq := of_decide_eq_true hq
        rw [if_pos hq] at hres
        refine (want_spec _).mono ?_
        rintro _ w5 ⟨rfl, rfl⟩
        by_cases hd0 : d = 0
        · rw [if_pos hd0] at hres
          rw [if_neg (by simp [hd0])]
          refine .inr ⟨_, rfl, ?_⟩
          rw [hres]
          exact ⟨hm1, rfl, _, h1⟩
        · rw [if_neg hd0] at hres
          rw [if_pos (by simp [hd0])]
          refine .inl ⟨rfl, (skip_spec h1 1).mono fun e w6 ht => ?_⟩
          rw [if_pos (by simp)] at ht
          refine on (some r) e w6 ht hres.symm fun t ht => ?_
          obtain rfl := Option.some.inj ht
          exact Nat.le_refl _
      · have hq := of_decide_eq_false hq
        rw [if_neg hq] at hres
        refine bsel_of (fun hc => bsel_of (fun hb40 => ?_) (fun hb40 => ?_)) (fun hc => ?_)
        · have hc : c = 41 := byte_eq.1 (of_decide_eq_true hc)
          have hb40 : b = 40 := byte_eq.1 (of_decide_eq_true hb40)
          rw [if_pos ⟨hc, hb40⟩] at hres
          refine (want_spec _).mono ?_
          rintro _ w5 ⟨rfl, rfl⟩
          by_cases hd0 : d = 0
          · rw [if_pos hd0] at hres
            rw [if_neg (by simp [hd0])]
            refine .inr ⟨_, rfl, ?_⟩
            rw [hres]
            exact ⟨hm1, rfl, _, h1⟩
          · rw [if_neg hd0] at hres
            rw [if_pos (by simp [hd0])]
            have e1 : IntKind.i64.wrap (31 - (d : Int) + 1) = 31 - ((d - 1 : Nat) : Int) := by rw [wrap_i64 (by omega) (by omega)]; omega
            rw [e1]
            refine .inl ⟨rfl, (skip_spec h1 1).mono fun e w6 ht => ?_⟩
            rw [if_pos (by simp)] at ht
            obtain ⟨hm6, rfl, h6⟩ := ht
            refine .inl ⟨rfl, (ih hd0 w6 g r 41 h6 hrl).mono fun e w7 ht => ?_⟩
            refine on _ e w7 (Took.next hm6 ht) hres.symm fun t ht => ?_
            exact Nat.le_of_lt (untilD_takes (d - 1) 41 _ _ ht)
        · have hb40 : ¬ b = 40 := fun e => of_decide_eq_false hb40 (byte_eq.2 e)
          rw [if_neg (fun h => hb40 h.2)] at hres
          exact unit hres.symm
        · have hc : ¬ c = 41 := fun e => of_decide_eq_false hc (byte_eq.2 e)
          rw [if_neg (fun h => hc h.1)] at hres
          exact unit hres.symm
theorem levels : ∀ d, d ≤ 31 → UnitAt d ∧ UntilAt d
  | 0, h => ⟨unit_of h (fun h => absurd rfl h), until_of h (unit_of h (fun h => absurd rfl h)) (fun h => absurd rfl h)⟩
  | d + 1, h => by
    have ih := (levels d (by omega)).2
    have hu : UnitAt (d + 1) := unit_of h (fun _ => ih)
    exact ⟨hu, until_of h hu (fun _ => ih)⟩
theorem unit_spec {g : Nat} {s : Txt} (hs : s ≠ []) (h : Scan w g s) (hl : s.length < 1000000) : Calls Tryd.prog fn_lexer_scanner_unit #[.pointer (some ⟨g, 0, none⟩), .int .i64 1] w (fun e w' => Took g w (unitD 30 s) e w') :=
  (levels 30 (by decide)).1 w g s hs h hl

end Go.Proofs.YtcoeiiihmpnagaaDoor
