/- Theorems of tokens: those of a text, a line end, and another text. Plain law. Conditions: none. -/
import Derived.Test.YtcoeiiihmpnagaaDoorM2
import Derived.Test.YtcoeiiihmpnagaaDoorLxToks
namespace Go.Proofs.YtcoeiiihmpnagaaDoor
open Go.RowKit Vc

theorem wordL_ends : ∀ n, Ends (wordL n)
  | 0 => fun s t h => by cases h
  | n + 1 => by
    intro s t h
    rw [wordL] at h
    split at h
    · obtain rfl := Option.some.inj h; exact List.suffix_refl _
    · split at h
      · rename_i x hx
        exact (wordL_ends n _ _ h).trans (unitD_ends 30 _ _ hx)
      · cases h
theorem wordL_end : ∀ n s t, wordL n s = some t → endsB t = true
  | 0, s, t, h => by cases h
  | n + 1, s, t, h => by
    rw [wordL] at h
    split at h
    · rename_i he
      obtain rfl := Option.some.inj h
      exact he
    · split at h
      · exact wordL_end n _ _ h
      · cases h
theorem word_loc : ∀ (n : Nat) (p : Txt), p.length ≤ n → ∀ t t', Sim t t' → endsB t' = true → wordD (p ++ t) = some t → wordD (p ++ t') = some t'
  | _, [], _, t, t', _, he, _ => wordD_ends he
  | 0, a :: p, hn, t, t', _, _, h => absurd hn (by simp)
  | n + 1, a :: p, hn, t, t', hs, he, h => by
    simp only [List.length_cons] at hn
    by_cases hb : isEnd a = true
    · rw [wordD_ends (s := a :: p ++ t) hb] at h
      have := congrArg List.length (Option.some.inj h)
      simp at this
      omega
    · have hb1 : endsB (a :: p ++ t) = false := by simpa [endsB] using hb
      have hb2 : endsB (a :: p ++ t') = false := by simpa [endsB] using hb
      cases hu : unitD 30 (a :: p ++ t) with
      | none => rw [wordD_none hb1 hu] at h; cases h
      | some x =>
        rw [wordD_unit hb1 hu] at h
        obtain ⟨z, y, rfl, hz⟩ := split_of (wordL_ends _ _ _ h) (unitD_ends 30 _ _ hu)
        have hlen := unitD_takes 30 _ _ hu
        rw [hz] at hu hb2 hlen ⊢
        have hzl := congrArg List.length hz
        simp only [List.length_append, List.length_cons] at hlen hzl
        rw [List.append_assoc] at hu hb2 ⊢
        rw [wordD_unit hb2 ((lev_loc 30).1 _ _ _ (hs.app y) hu)]
        exact word_loc n y (by omega) t t' hs he h

/-! ### Tokens -/
theorem tokOne_view {a : UInt8} {r t : Txt} {l : List Tok} (h : tokOne a r = some (l, t)) :
    ((a = 32 ∨ a = 9) ∧ l = [] ∧ t = r) ∨ (a = 35 ∧ l = [] ∧ t = lineEnd r) ∨ (a = 10 ∧ l = [(2, [10])] ∧ t = r) ∨
    ((¬ (a = 32 ∨ a = 9) ∧ ¬ a = 35 ∧ ¬ a = 10) ∧ isEnd a = true ∧ l = [(1, (a :: r).take (opLen (a :: r)))] ∧ t = (a :: r).drop (opLen (a :: r))) ∨
    ((¬ (a = 32 ∨ a = 9) ∧ ¬ a = 35 ∧ ¬ a = 10) ∧ isEnd a = false ∧ ∃ p, p ≠ [] ∧ a :: r = p ++ t ∧ wordD (p ++ t) = some t ∧ l = [(0, p)]) := by
  unfold tokOne at h
  by_cases h1 : a = 32 ∨ a = 9
  · rw [if_pos h1] at h
    obtain ⟨rfl, rfl⟩ := Prod.mk.injEq .. ▸ Option.some.inj h
    exact .inl ⟨h1, rfl, rfl⟩
  rw [if_neg h1] at h
  by_cases h2 : a = 35
  · rw [if_pos h2] at h
    obtain ⟨rfl, rfl⟩ := Prod.mk.injEq .. ▸ Option.some.inj h
    exact .inr (.inl ⟨h2, rfl, rfl⟩)
  rw [if_neg h2] at h
  by_cases h3 : a = 10
  · rw [if_pos h3] at h
    obtain ⟨rfl, rfl⟩ := Prod.mk.injEq .. ▸ Option.some.inj h
    exact .inr (.inr (.inl ⟨h3, rfl, rfl⟩))
  rw [if_neg h3] at h
  by_cases h4 : isEnd a = true
  · rw [if_pos h4] at h
    obtain ⟨rfl, rfl⟩ := Prod.mk.injEq .. ▸ Option.some.inj h
    exact .inr (.inr (.inr (.inl ⟨⟨h1, h2, h3⟩, h4, rfl, rfl⟩)))
  rw [if_neg h4] at h
  have h4 : isEnd a = false := by simpa using h4
  refine .inr (.inr (.inr (.inr ⟨⟨h1, h2, h3⟩, h4, ?_⟩)))
  split at h
  · rename_i t' ht
    obtain ⟨rfl, rfl⟩ := Prod.mk.injEq .. ▸ Option.some.inj h
    obtain ⟨p, hp⟩ := wordL_ends _ _ _ ht
    have hlen := wordD_length (s := a :: r) h4 ht
    refine ⟨p, ?_, hp.symm, by rw [hp]; exact ht, ?_⟩
    · rintro rfl
      rw [← hp] at hlen
      simp at hlen
    · rw [← hp]
      simp
  · cases h
theorem tokOne_word {a : UInt8} {r t p : Txt} (h : ¬ (a = 32 ∨ a = 9) ∧ ¬ a = 35 ∧ ¬ a = 10) (he : isEnd a = false) (hp : a :: r = p ++ t) (hw : wordD (p ++ t) = some t) : tokOne a r = some ([(0, p)], t) := by
  unfold tokOne
  rw [if_neg h.1, if_neg h.2.1, if_neg h.2.2, if_neg (by rw [he]; decide), hp, hw]
  simp
theorem tokOne_op {a : UInt8} {r : Txt} (h : ¬ (a = 32 ∨ a = 9) ∧ ¬ a = 35 ∧ ¬ a = 10) (he : isEnd a = true) : tokOne a r = some ([(1, (a :: r).take (opLen (a :: r)))], (a :: r).drop (opLen (a :: r))) := by
  unfold tokOne
  rw [if_neg h.1, if_neg h.2.1, if_neg h.2.2, if_pos he]
theorem opLen_app {a c : UInt8} {r u : Txt} (hc : c = 10 ∨ c = 32) : opLen (a :: (r ++ c :: u)) = opLen (a :: r) := by
  cases r with
  | nil =>
    show (if a = c ∧ ([38, 124, 59, 62] : Txt).contains a = true then 2 else 1) = 1
    rw [if_neg]
    rintro ⟨rfl, h⟩
    rcases hc with rfl | rfl <;> exact absurd h (by decide)
  | cons b r => rfl
theorem lineEnd_app (r y : Txt) : lineEnd (r ++ y) = if lineEnd r = [] then lineEnd y else lineEnd r ++ y := by
  induction r with
  | nil => rfl
  | cons a r ih =>
    simp only [List.cons_append, lineEnd]
    split
    · simp
    · exact ih
theorem toks_one {a : UInt8} {r t : Txt} {l : List Tok} (h : tokOne a r = some (l, t)) : toks (a :: r) = (toks t).map (l ++ ·) := by
  rw [toks_cons, h]
  rfl
theorem map_app (o : Option (List Tok)) (l m : List Tok) : (o.map (m ++ ·)).map (l ++ ·) = o.map ((l ++ m) ++ ·) := by
  cases o <;> simp
theorem map_nil (o : Option (List Tok)) : o.map (([] : List Tok) ++ ·) = o := by
  cases o <;> simp
/-- A text, and what begins with a line end or a blank. -/
theorem toks_app {y u : Txt} {c : UInt8} (hy : y = c :: u) (hc : c = 10 ∨ c = 32) (hl : toks (lineEnd y) = toks y) : ∀ (n : Nat) (s : Txt), s.length ≤ n → ∀ l, toks s = some l → toks (s ++ y) = (toks y).map (l ++ ·)
  | _, [], _, l, h => by
    obtain rfl := Option.some.inj h
    rw [map_nil]
    rfl
  | 0, a :: r, hn, l, h => absurd hn (by simp)
  | n + 1, a :: r, hn, l, h => by
    have ih := toks_app hy hc hl n
    simp only [List.length_cons] at hn
    rw [toks_cons] at h
    obtain ⟨⟨l1, t⟩, hone, h⟩ := Option.bind_eq_some_iff.1 h
    obtain ⟨l2, h2, rfl⟩ := Option.map_eq_some_iff.1 h
    dsimp only at h2
    have hlen := (tokOne_length hone).1
    have more : tokOne a (r ++ y) = some (l1, t ++ y) → toks (a :: r ++ y) = (toks y).map ((l1 ++ l2) ++ ·) := by
      intro h
      rw [List.cons_append, toks_one h, ih t (by omega) l2 h2, map_app]
    rcases tokOne_view hone with ⟨h1, rfl, rfl⟩ | ⟨rfl, rfl, rfl⟩ | ⟨rfl, rfl, rfl⟩ | ⟨h1, he, rfl, rfl⟩ | ⟨h1, he, p, hp0, hp, hw, rfl⟩
    · exact more (by unfold tokOne; rw [if_pos h1])
    · by_cases hle : lineEnd r = []
      · have h0 : tokOne 35 (r ++ y) = some ([], lineEnd y) := by
          show some (([] : List Tok), lineEnd (r ++ y)) = _
          rw [lineEnd_app, if_pos hle]
        rw [hle] at h2
        obtain rfl := Option.some.inj h2
        rw [List.cons_append, toks_one h0, hl]
        rfl
      · refine more ?_
        show some (([] : List Tok), lineEnd (r ++ y)) = _
        rw [lineEnd_app, if_neg hle]
    · exact more rfl
    · refine more ?_
      have hol := (opLen_le (a := a) (r := r)).2
      rw [tokOne_op h1 he, hy, opLen_app hc]
      have e1 : a :: (r ++ c :: u) = (a :: r) ++ c :: u := rfl
      rw [e1, List.take_append_of_le_length hol, List.drop_append_of_le_length hol]
    · refine more (tokOne_word h1 he (by rw [← List.append_assoc, ← hp]; rfl) ?_)
      have hs : Sim t (t ++ y) := by
        cases t with
        | nil =>
          rw [hy]
          intro d r' hd hk
          injection hd with hd1 hd2
          subst hd1
          rcases hc with rfl | rfl <;> rcases hk with hk | hk <;> cases hk
        | cons b t => exact Sim.head b _ _
      have he : endsB (t ++ y) = true := by
        cases t with
        | nil =>
          rw [hy]
          rcases hc with rfl | rfl <;> rfl
        | cons b t => exact (show endsB (b :: t ++ y) = endsB (b :: t) from rfl).trans (wordL_end _ _ _ hw)
      exact word_loc _ p (Nat.le_refl _) _ _ hs he hw
theorem toks_line (s t : Txt) {l k : List Tok} (hs : toks s = some l) (ht : toks t = some k) : toks (s ++ [10] ++ t) = some (l ++ [(2, [10])] ++ k) := by
  have h1 : toks (10 :: t) = some ((2, [10]) :: k) := by
    rw [toks_one (l := [(2, [10])]) (t := t) rfl, ht]
    rfl
  rw [List.append_assoc]
  show toks (s ++ 10 :: t) = _
  rw [toks_app rfl (.inl rfl) rfl _ s (Nat.le_refl _) l hs, h1]
  simp
theorem toks_comment (s t : Txt) {l k : List Tok} (hs : toks s = some l) (ht : toks t = some k) : toks (s ++ [32, 35, 32, 39, 32, 40, 32, 10] ++ t) = some (l ++ [(2, [10])] ++ k) := by
  have h1 : toks (10 :: t) = some ((2, [10]) :: k) := by
    rw [toks_one (l := [(2, [10])]) (t := t) rfl, ht]
    rfl
  have h2 : toks (32 :: 35 :: 32 :: 39 :: 32 :: 40 :: 32 :: 10 :: t) = some ((2, [10]) :: k) := by
    rw [toks_one (l := []) (t := 35 :: 32 :: 39 :: 32 :: 40 :: 32 :: 10 :: t) rfl, toks_one (l := []) (t := 10 :: t) rfl, h1]
    rfl
  rw [List.append_assoc]
  show toks (s ++ 32 :: 35 :: 32 :: 39 :: 32 :: 40 :: 32 :: 10 :: t) = _
  rw [toks_app rfl (.inr rfl) (by rw [h2]; exact h1) _ s (Nat.le_refl _) l hs, h2]
  simp

/-! ### Told again -/
end Go.Proofs.YtcoeiiihmpnagaaDoor
