/- The scanner: words, operators, comments. Conditions: as each theorem names them. -/
import Derived.Test.YtcoeiiihmpnagaaDoorLxProg
import Derived.Test.YtcoeiiihmpnagaaDoorWdNam
namespace Go.Proofs.YtcoeiiihmpnagaaDoor
open Go.RowKit Vc
variable {w : World}

def isEnd (c : UInt8) : Bool := c == 32 || c == 9 || c == 10 || c == 59 || c == 124 || c == 38 || c == 40 || c == 41 || c == 60 || c == 62
def endsB : Txt → Bool
  | [] => true
  | c :: _ => isEnd c
theorem lexends_spec {g : Nat} {s : Txt} (h : Scan w g s) : Calls Tryd.prog fn_lexer_scanner_ends #[.pointer (some ⟨g, 0, none⟩)] w (fun e w' => e = .returned (.bool (endsB s)) ∧ w' = w) := by
  refine lexer_scanner_ends_calls _ _ _ ?_
  refine ⟨_, h.cell, bsel_of (fun he => ?_) (fun he => ⟨_, h.cell, by decide, ?_⟩)⟩
  · have he := of_decide_eq_true he
    subst he
    exact ⟨rfl, rfl⟩
  · have he := of_decide_eq_false he
    obtain ⟨b, r, rfl⟩ := List.exists_cons_of_ne_nil he
    refine ⟨b, rfl, (Tryd.strings_IndexByte (S [32, 9, 10, 59, 124, 38, 40, 41, 60, 62]) _ _).mono ?_⟩
    rintro _ w1 ⟨rfl, rfl⟩
    refine .inl ⟨_, rfl, ?_, rfl⟩
    rw [toUInt8_back, show (S [32, 9, 10, 59, 124, 38, 40, 41, 60, 62]).data.toList = [32, 9, 10, 59, 124, 38, 40, 41, 60, 62] from rfl, index_mem]
    congr 2
    simp only [endsB, isEnd, List.contains_cons, List.contains_nil, Bool.or_false, Bool.or_assoc]

/-- What is left behind a word. -/
def wordL : Nat → Txt → Option Txt
  | 0, _ => none
  | n + 1, s => if endsB s = true then some s else match unitD 30 s with
    | some t => wordL n t
    | none => none
theorem wordL_more : ∀ (n m : Nat) (s : Txt), s.length < n → s.length < m → wordL n s = wordL m s
  | 0, _, _, h, _ => by omega
  | _, 0, _, _, h => by omega
  | n + 1, m + 1, s, hn, hm => by
    rw [wordL, wordL]
    split
    · rfl
    · cases hu : unitD 30 s with
      | none => rfl
      | some t =>
        have := unitD_takes 30 _ _ hu
        exact wordL_more n m t (by omega) (by omega)
def wordD (s : Txt) : Option Txt := wordL (s.length + 1) s
theorem wordD_ends {s : Txt} (h : endsB s = true) : wordD s = some s := by rw [wordD, wordL, if_pos h]
theorem wordD_unit {s t : Txt} (h : endsB s = false) (hu : unitD 30 s = some t) : wordD s = wordD t := by
  have := unitD_takes 30 _ _ hu
  rw [wordD, wordL, if_neg (by rw [h]; decide), hu]
  exact wordL_more _ _ _ (by omega) (by omega)
theorem wordD_none {s : Txt} (h : endsB s = false) (hu : unitD 30 s = none) : wordD s = none := by rw [wordD, wordL, if_neg (by rw [h]; decide), hu]
theorem lexword_spec {g : Nat} {s : Txt} (h : Scan w g s) (hl : s.length < 1000000) : Calls Tryd.prog fn_lexer_scanner_word #[.pointer (some ⟨g, 0, none⟩)] w
    (fun e w' => Only g w w' ∧ match wordD s with
      | some t => e = .returned (.string (S (s.take (s.length - t.length)))) ∧ Scan w' g t ∧ t.length ≤ s.length
      | none => e = .panicked quoteP ∧ ∃ t, Scan w' g t) := by
  refine lexer_scanner_word_calls _ _ _ ?_
  refine ⟨_, h.cell, fun w1 => ∃ s1, Scan w1 g s1 ∧ Only g w w1 ∧ wordD s1 = wordD s ∧ s1.length ≤ s.length, scanLen g, ⟨s, h, Mod.refl _ _, rfl, Nat.le_refl _⟩, ?_⟩
  rintro _ w1 ⟨s1, h1, hm1, he, hle⟩
  rw [← he]
  refine (lexends_spec h1).mono ?_
  rintro _ w2 ⟨rfl, rfl⟩
  refine .inl ⟨_, rfl, bsel_of (fun hne => ?_) (fun hne => ?_)⟩
  · have hne : endsB s1 = false := by simpa using hne
    have hs1 : s1 ≠ [] := by
      rintro rfl
      cases hne
    refine (unit_spec hs1 h1 (by omega)).mono fun e w3 ht => ?_
    obtain ⟨hm3, ht⟩ := ht
    cases hu : unitD 30 s1 with
    | none =>
      rw [hu] at ht
      obtain ⟨rfl, h3⟩ := ht
      refine .inr ⟨_, rfl, hm1.trans hm3, ?_⟩
      rw [wordD_none hne hu]
      exact ⟨rfl, h3⟩
    | some t =>
      rw [hu] at ht
      obtain ⟨rfl, h3⟩ := ht
      have hlt := unitD_takes 30 _ _ hu
      refine .inl ⟨rfl, ⟨t, h3, hm1.trans hm3, (wordD_unit hne hu).symm, by omega⟩, ?_⟩
      rw [h3.len, h1.len]
      exact hlt
  · have hne : endsB s1 = true := by simpa using hne
    have ew : IntKind.i64.wrap ((s.length : Int) - (s1.length : Int)) = ((s.length - s1.length : Nat) : Int) := by rw [wrap_i64 (by omega) (by omega)]; omega
    refine ⟨_, h1.cell, ?_⟩
    rw [ew, Int.toNat_natCast, wordD_ends hne]
    exact ⟨by omega, by omega, hm1, rfl, h1, hle⟩
def opLen : Txt → Nat
  | a :: b :: _ => if a = b ∧ ([38, 124, 59, 62] : Txt).contains a = true then 2 else 1
  | _ => 1
theorem lexop_spec {g : Nat} {s : Txt} (h : Scan w g s) (hs : s ≠ []) : Calls Tryd.prog fn_lexer_scanner_operator #[.pointer (some ⟨g, 0, none⟩)] w
    (fun e w' => Only g w w' ∧ e = .returned (.string (S (s.take (opLen s)))) ∧ Scan w' g (s.drop (opLen s))) := by
  refine lexer_scanner_operator_calls _ _ _ ?_
  have hol : opLen s ≤ s.length ∧ (opLen s = 1 ∨ opLen s = 2) := by
    match s, hs with
    | [a], _ => exact ⟨Nat.le_refl _, .inl rfl⟩
    | a :: b :: r, _ => simp only [opLen]; split <;> simp
  refine ⟨fun n w3 => n = (opLen s : Int) ∧ Scan w3 g s ∧ Only g w w3, ⟨fun x w2 => x = decide (opLen s = 2) ∧ Scan w2 g s ∧ Only g w w2, ⟨fun wq => Scan wq g s, h.drew, _, fun wq hq => hq.cell, bsel_of (fun hl => ?_) (fun hl => ⟨?_, h.drew, (Mod.refl _ _).drew⟩)⟩, ?_⟩, ?_⟩
  · match s, hs, h with
    | a :: b :: r, _, h =>
      refine ⟨_, fun wq hq => hq.cell, by decide, a, rfl, _, fun wq hq => hq.cell, by decide, b, rfl, bsel_of (fun hab => ⟨_, fun wq hq => hq.cell, by decide, a, rfl, (Tryd.strings_IndexByte (S [38, 124, 59, 62]) _ _).mono ?_⟩) (fun hab => ⟨?_, h.drew, (Mod.refl _ _).drew⟩)⟩
      · have hab : a = b := byte_eq.1 (of_decide_eq_true hab)
        rintro _ w1 ⟨rfl, rfl⟩
        refine .inl ⟨_, rfl, ?_, h.drew, (Mod.refl _ _).drew⟩
        rw [toUInt8_back, show (S [38, 124, 59, 62]).data.toList = [38, 124, 59, 62] from rfl, index_mem]
        by_cases hc : ([38, 124, 59, 62] : Txt).contains a = true
        · have ho : opLen (a :: b :: r) = 2 := by simp only [opLen, if_pos (And.intro hab hc)]
          rw [hc, decide_eq_true ho]
        · have ho : opLen (a :: b :: r) = 1 := by simp only [opLen, if_neg (fun h => hc (And.right h))]
          have hc' : ([38, 124, 59, 62] : Txt).contains a = false := by simpa using hc
          rw [hc', decide_eq_false (by omega)]
      · have hab : ¬ a = b := fun e => of_decide_eq_false hab (byte_eq.2 e)
        have ho : opLen (a :: b :: r) = 1 := by simp only [opLen, if_neg (fun h => hab (And.left h))]
        exact (decide_eq_false (by omega)).symm
    | [a], _, h => simp at hl
  · match s, hs with
    | [a], _ => rfl
    | a :: b :: r, _ =>
      have := of_decide_eq_false hl
      simp only [List.length_cons] at this
      omega
  · rintro _ _ w2 ⟨rfl, h2, hm2⟩
    refine bsel_of (fun h => ⟨?_, h2, hm2⟩) (fun h => ⟨?_, h2, hm2⟩)
    · rw [of_decide_eq_true h]; rfl
    · have := of_decide_eq_false h
      rcases hol.2 with e | e
      · rw [e]; rfl
      · exact absurd e this
  · rintro _ _ w3 ⟨rfl, h3, hm3⟩
    refine ⟨_, h3.cell, by omega, by omega, (skip_spec h3 (opLen s)).mono fun e w4 ht => ?_⟩
    rw [if_pos hol.1] at ht
    obtain ⟨hm4, rfl, h4⟩ := ht
    refine .inl ⟨rfl, hm3.trans hm4, ?_, h4⟩
    rw [Int.toNat_natCast]
/-- What is left behind a comment. -/
def lineEnd : Txt → Txt
  | [] => []
  | a :: r => if a = 10 then a :: r else lineEnd r
theorem indexLine : ∀ s : Txt, lineEnd s = (if 0 ≤ Go.Lib.indexByte s 10 then s.drop (Go.Lib.indexByte s 10).toNat else []) ∧ (0 ≤ Go.Lib.indexByte s 10 → Go.Lib.indexByte s 10 < s.length) ∧ -1 ≤ Go.Lib.indexByte s 10
  | [] => ⟨rfl, by decide, by decide⟩
  | a :: r => by
    obtain ⟨h1, h2, h3⟩ := indexLine r
    simp only [Go.Lib.indexByte, lineEnd, beq_iff_eq]
    by_cases ha : a = 10
    · rw [if_pos ha, if_pos ha]
      refine ⟨rfl, fun _ => by simp only [List.length_cons]; omega, by decide⟩
    · rw [if_neg ha, if_neg ha, h1]
      by_cases hr : Go.Lib.indexByte r 10 = -1
      · rw [if_pos hr, hr]
        exact ⟨rfl, fun h => absurd h (by decide), by decide⟩
      · rw [if_neg hr, if_pos (by omega), if_pos (by omega)]
        refine ⟨?_, fun _ => by simp only [List.length_cons]; have := h2 (by omega); omega, by omega⟩
        rw [show (Go.Lib.indexByte r 10 + 1).toNat = (Go.Lib.indexByte r 10).toNat + 1 by omega, List.drop_succ_cons]
theorem lexcomment_spec {g : Nat} {s : Txt} (h : Scan w g s) : Calls Tryd.prog fn_lexer_scanner_comment #[.pointer (some ⟨g, 0, none⟩)] w (fun e w' => Only g w w' ∧ e = .returned (.tuple #[]) ∧ Scan w' g (lineEnd s)) := by
  refine lexer_scanner_comment_calls _ _ _ ?_
  refine ⟨_, h.cell, (Tryd.strings_IndexByte (S s) 10 _).mono ?_⟩
  rintro _ w1 ⟨rfl, rfl⟩
  have hix : Go.Lib.indexByte (S s).data.toList (Int.toNat 10).toUInt8 = Go.Lib.indexByte s 10 := rfl
  rw [hix]
  obtain ⟨i1, i2, i3⟩ := indexLine s
  generalize Go.Lib.indexByte s 10 = ix at i1 i2 i3
  refine .inl ⟨_, rfl, bsel_of (fun h0 => ?_) (fun h0 => ⟨h.wr 0 (by simp), Only.put _, rfl, ?_⟩)⟩
  · have h0 := of_decide_eq_true h0
    obtain ⟨n, rfl⟩ := Int.eq_ofNat_of_zero_le h0
    have i2 := i2 h0
    refine (skip_spec h n).mono fun e w2 ht => ?_
    rw [if_pos (by omega)] at ht
    obtain ⟨hm2, rfl, h2⟩ := ht
    rw [if_pos h0, Int.toNat_natCast] at i1
    rw [i1]
    exact .inl ⟨rfl, hm2, rfl, h2⟩
  · have h0 := of_decide_eq_false h0
    rw [if_neg h0] at i1
    rw [i1]
    exact h.put _
end Go.Proofs.YtcoeiiihmpnagaaDoor
