/- Laws of patterns without the document's answer, at the walk's level. Conditions: as each theorem names them. -/
import Derived.Test.YtjkbpdhpmcndlaaPatRest
import Derived.Test.YtjkbpdhpmcndlaaPatThm
import Derived.Test.YtjkbpdhpmcndlaaPieces
namespace Go.Proofs.Ytjkbpdhpmcndlaa
open Go.RowKit Vc
variable {w : World}

theorem PatternSelf_spec (s t : List UInt8) : Calls Try.prog fn_law11_PatternSelf #[.string (S s), .string (S t)] w (fun e w' => e = .returned (.bool true) ∧ Still w w') := by
  refine law11_PatternSelf_calls _ _ _ _ ?_
  refine awake_spec.mono ?_
  rintro _ w1 ⟨rfl, h1⟩
  refine .inl ⟨true, rfl, bsel_of (fun h => by cases h) (fun _ => bsel_of (fun _ => ⟨rfl, h1⟩) (fun hs => bsel_of (fun _ => ⟨rfl, h1⟩) (fun ht => ?_)))⟩
  have hs := of_decide_eq_false hs
  have ht := of_decide_eq_false ht
  refine (escape_spec s (by omega)).mono ?_
  rintro _ w2 ⟨rfl, h2⟩
  have hel := escape_length s
  refine .inl ⟨_, rfl, bsel_of (fun _ => (match_spec _ s (by omega) (by omega)).mono ?_) (fun h => by cases h)⟩
  rintro _ w3 ⟨rfl, h3⟩
  refine .inl ⟨_, rfl, bsel_of (fun _ => (match_spec _ t (by omega) (by omega)).mono ?_) (fun h => by rw [match_escape, decide_eq_true rfl] at h; cases h)⟩
  rintro _ w4 ⟨rfl, h4⟩
  refine .inl ⟨_, rfl, bsel_of (fun _ => (plain_spec _ (by omega)).mono ?_) (fun h => by rw [match_escape, decide_eq_true rfl] at h; cases h)⟩
  rintro _ w5 ⟨rfl, h5⟩
  refine .inl ⟨_, rfl, bsel_of (fun _ => (special_spec _).mono ?_) (fun h => by rw [plain_escape, decide_eq_true rfl] at h; cases h)⟩
  rintro _ w6 ⟨rfl, h6⟩
  exact .inl ⟨_, rfl, by rw [special_escape]; rfl, ((((h1.trans h2).trans h3).trans h4).trans h5).trans h6⟩

def signs : List (List UInt8) := [[97], [98], [42], [63], [91], [93], [33], [45], [92], [91, 97, 45, 99, 93], [91, 33, 97, 93], [99], [46], [91, 93, 98, 93], [92, 42], [47]]
theorem signs_spec : Calls Try.prog fn_law11_Signs #[] w (fun e w' => ∃ g, e = .returned (.slice (some ⟨g, 0, none⟩) signs.length signs.length) ∧ Row w' g 9 ⟨strs signs⟩ ∧ Still w w') := by
  refine law11_Signs_calls _ _ ?_
  exact ⟨_, rfl, Row.new w 9 ⟨strs signs⟩, (Mod.refl _ _).alloc _⟩
theorem PatternCuts_spec (l : Option Addr) (lL lC : Nat) (hl : U8s w l lL) (s : List UInt8) (e m : Bool) : Calls Try.prog fn_law11_PatternCuts #[.slice l lL lC, .string (S s), .bool e, .bool m] w (fun e w' => e = .returned (.bool true) ∧ Still w w') := by
  refine law11_PatternCuts_calls _ _ _ _ _ _ _ _ ?_
  refine awake_spec.mono ?_
  rintro _ w1 ⟨rfl, h1⟩
  refine .inl ⟨true, rfl, bsel_of (fun h => by cases h) (fun _ => signs_spec.mono ?_)⟩
  rintro _ w2 ⟨g, rfl, hr, h2⟩
  refine .inl ⟨_, _, _, rfl, (pieces_of (hl.still (h1.trans h2)) hr (by decide) (by decide) (by decide)).mono ?_⟩
  rintro _ w3 ⟨p, rfl, hp, rfl⟩
  refine .inl ⟨_, rfl, bsel_of (fun _ => ⟨rfl, h1.trans h2⟩) (fun hs => ?_)⟩
  have hs := of_decide_eq_false hs
  refine (remove_spec s p e m (by omega) (by omega)).mono ?_
  rintro _ w4 ⟨rfl, h4⟩
  have h14 := (h1.trans h2).trans h4
  cases e with
  | true =>
    obtain ⟨r1, r2, r3⟩ := remove_end (s := s) (p := p) (m := m)
    generalize remove s p true m = t at r1 r2 r3 ⊢
    have ew : IntKind.i64.wrap ((s.length : Int) - (t.length : Int)) = ((s.length - t.length : Nat) : Int) := by rw [wrap_i64 (by omega) (by omega)]; omega
    refine .inl ⟨_, rfl, bsel_of (fun h => by have := of_decide_eq_true h; omega) (fun _ => bsel_of (fun _ => bsel_of (fun _ => ⟨by omega, by omega, ?_⟩) (fun h => by cases h)) (fun h => by cases h))⟩
    rw [Int.toNat_natCast, ew]
    refine bsel_of (fun _ => bsel_of (fun _ => ⟨rfl, h14⟩) (fun hz => ⟨by omega, by omega, (match_spec p _ (by omega) (by simp; omega)).mono ?_⟩)) (fun h => absurd r2 (of_decide_eq_false h))
    rintro _ w5 ⟨rfl, h5⟩
    have hz := of_decide_eq_false hz
    rcases r3 with r3 | r3
    · omega
    · exact .inl ⟨_, rfl, by rw [r3], h14.trans h5⟩
  | false =>
    obtain ⟨r1, r2, r3⟩ := remove_head (s := s) (p := p) (m := m)
    generalize remove s p false m = t at r1 r2 r3 ⊢
    have ew : IntKind.i64.wrap ((s.length : Int) - (t.length : Int)) = ((s.length - t.length : Nat) : Int) := by rw [wrap_i64 (by omega) (by omega)]; omega
    refine .inl ⟨_, rfl, bsel_of (fun h => by have := of_decide_eq_true h; omega) (fun _ => bsel_of (fun h => by cases h) (fun _ => bsel_of (fun _ => ?_) (fun h => by cases h)))⟩
    rw [ew, Int.toNat_natCast]
    refine ⟨by omega, by omega, bsel_of (fun _ => bsel_of (fun _ => ⟨rfl, h14⟩) (fun hz => ⟨by omega, by omega, (match_spec p _ (by omega) (by simp; omega)).mono ?_⟩)) (fun h => absurd r2 (of_decide_eq_false h))⟩
    rintro _ w5 ⟨rfl, h5⟩
    have hz := of_decide_eq_false hz
    rcases r3 with r3 | r3
    · omega
    · exact .inl ⟨_, rfl, by rw [r3], h14.trans h5⟩

theorem PatternStars_spec (l : Option Addr) (lL lC : Nat) (hl : U8s w l lL) (s t : List UInt8) : Calls Try.prog fn_law11_PatternStars #[.slice l lL lC, .string (S s), .string (S t)] w (fun e w' => e = .returned (.bool true) ∧ Still w w') := by
  refine law11_PatternStars_calls _ _ _ _ _ _ _ ?_
  refine awake_spec.mono ?_
  rintro _ w1 ⟨rfl, h1⟩
  refine .inl ⟨true, rfl, bsel_of (fun h => by cases h) (fun _ => signs_spec.mono ?_)⟩
  rintro _ w2 ⟨g, rfl, hr, h2⟩
  refine .inl ⟨_, _, _, rfl, (pieces_of (hl.still (h1.trans h2)) hr (by decide) (by decide) (by decide)).mono ?_⟩
  rintro _ w3 ⟨p, rfl, hp, rfl⟩
  refine .inl ⟨_, rfl, bsel_of (fun _ => ⟨rfl, h1.trans h2⟩) (fun hs => bsel_of (fun _ => ⟨rfl, h1.trans h2⟩) (fun ht => ?_))⟩
  have hs := of_decide_eq_false hs
  have ht := of_decide_eq_false ht
  have h3 := h1.trans h2
  have star : ∀ wn : World, Still w wn → bsel true (Calls Try.prog fn_pattern_Match #[(.string (S ([42] : List UInt8))), (.string (S s))] wn (fun ed w' => (∃ r : Bool, ed = .returned (.bool r) ∧ Ending.returned (.bool r) = .returned (.bool true) ∧ Still w w') ∨ (∃ ch, ed = .panicked ch ∧ Ending.panicked ch = .returned (.bool true) ∧ Still w w'))) (Ending.returned (.bool false) = .returned (.bool true) ∧ Still w wn) := by
    intro wn hn
    refine bsel_of (fun _ => (match_spec _ s (by decide) (by omega)).mono ?_) (fun h => by cases h)
    rintro _ w' ⟨rfl, h'⟩
    exact .inl ⟨_, rfl, by rw [match_star_all], hn.trans h'⟩
  refine ⟨fun w' => Still w w', ⟨fun x w' => x = false ∧ Still w w', ?_, ?_⟩, ?_⟩
  · refine (match_spec p s (by omega) (by omega)).mono ?_
    rintro _ w4 ⟨rfl, h4⟩
    refine .inl ⟨_, rfl, bsel_of (fun hm => ⟨by simp; omega, by omega, (match_spec _ _ (by simp; omega) (by simp; omega)).mono ?_⟩) (fun _ => ⟨rfl, h3.trans h4⟩)⟩
    rintro _ w5 ⟨rfl, h5⟩
    refine .inl ⟨_, rfl, ?_, (h3.trans h4).trans h5⟩
    have : pMatch ([42] ++ p) (t ++ s) = true := match_star_ahead t hm
    rw [this]
    rfl
  · rintro _ _ w6 ⟨rfl, h6⟩
    exact bsel_of (fun h => by cases h) (fun _ => h6)
  · rintro _ w7 h7
    refine (special_spec p).mono ?_
    rintro _ w8 ⟨rfl, h8⟩
    have h78 := Still.trans h7 h8
    refine .inl ⟨_, rfl, bsel_of (fun hsp => ?_) (fun _ => star _ h78)⟩
    have hsp : special p = false := by simpa using hsp
    have hpl := plain_length p
    refine (plain_spec p (by omega)).mono ?_
    rintro _ w9 ⟨rfl, h9⟩
    refine .inl ⟨_, rfl, (match_spec p _ (by omega) (by omega)).mono ?_⟩
    rintro _ w10 ⟨rfl, h10⟩
    refine .inl ⟨_, rfl, bsel_of (fun h => ?_) (fun _ => (match_spec p s (by omega) (by omega)).mono ?_)⟩
    · rw [match_plain _ p _ (Nat.le_refl _) hsp, decide_eq_true rfl] at h
      cases h
    rintro _ w11 ⟨rfl, h11⟩
    have h711 := ((h78.trans h9).trans h10).trans h11
    refine .inl ⟨_, rfl, bsel_of (fun hm => (plain_spec p (by omega)).mono ?_) (fun _ => star _ h711)⟩
    rintro _ w12 ⟨rfl, h12⟩
    rw [match_plain _ p _ (Nat.le_refl _) hsp] at hm
    have hm := of_decide_eq_true hm
    refine .inl ⟨_, rfl, bsel_of (fun h => ?_) (fun _ => star _ (h711.trans h12))⟩
    rw [decide_eq_true hm.symm] at h
    cases h
end Go.Proofs.Ytjkbpdhpmcndlaa
