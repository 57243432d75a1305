/- Theorems of tokens: what is read of a text does not depend on what stands behind it. Plain law. Conditions: as each theorem names them. -/
import Derived.Test.YtiaonlaodcmigaaLexRef3
namespace Go.Proofs.Ytiaonlaodcmigaa
open Go.RowKit Vc

/-- t' begins with a bracket only where t does. -/
def Sim (t t' : Txt) : Prop := ∀ c r', t' = c :: r' → (c = 40 ∨ c = 123) → ∃ r, t = c :: r
theorem Sim.head (c : UInt8) (t t' : Txt) : Sim (c :: t) (c :: t') := fun d r' h _ => ⟨t, by injection h with h1 h2; rw [h1]⟩
theorem Sim.app {t t' : Txt} (h : Sim t t') : ∀ y : Txt, Sim (y ++ t) (y ++ t')
  | [] => h
  | c :: _y => Sim.head c _ _
def LU (f : Txt → Option Txt) : Prop := ∀ p t t', Sim t t' → f (p ++ t) = some t → f (p ++ t') = some t'
def LT (f : Txt → Option Txt) : Prop := ∀ p t t', f (p ++ t) = some t → f (p ++ t') = some t'
theorem no_take {f : Txt → Option Txt} (hf : Takes f) {t : Txt} {A : Prop} (h : f t = some t) : A := absurd (hf _ _ h) (Nat.lt_irrefl _)
theorem app_nil {p t : Txt} (h : p ++ t = t) : p = [] := by
  have := congrArg List.length h
  rw [List.length_append] at this
  exact List.eq_nil_of_length_eq_zero (by omega)
theorem split_of {p t x : Txt} (h : t <:+ x) (hx : x <:+ p ++ t) : ∃ z y, x = y ++ t ∧ p = z ++ y := by
  obtain ⟨y, rfl⟩ := h
  obtain ⟨z, hz⟩ := hx
  rw [← List.append_assoc] at hz
  exact ⟨z, y, rfl, (List.append_cancel_right hz).symm⟩
theorem quoteEnd_loc : LT quoteEnd
  | [], t, t', h => no_take (fun _ _ => quoteEnd_length) h
  | a :: p, t, t', h => by
    simp only [List.cons_append, quoteEnd] at h ⊢
    split at h
    · rename_i ha
      rw [if_pos ha, app_nil (Option.some.inj h)]
      rfl
    · rename_i ha
      rw [if_neg ha]
      exact quoteEnd_loc p t t' h
theorem unitF_loc {v : UInt8 → Txt → Option Txt} (hv : ∀ e, LT (v e)) (hk : ∀ e, Takes (v e)) : LU (unitF v) := by
  intro p t t' hs h
  cases p with
  | nil => exact no_take (unitF_takes hk) h
  | cons a p =>
    simp only [List.cons_append, unitF] at h ⊢
    by_cases h92 : a = 92
    · rw [if_pos h92] at h ⊢
      cases p with
      | nil =>
        cases t with
        | nil => cases h
        | cons b t =>
          have h : t = b :: t := Option.some.inj h
          have := congrArg List.length h
          simp at this
      | cons b p =>
        have h : p ++ t = t := Option.some.inj h
        rw [app_nil h]
        rfl
    · rw [if_neg h92] at h ⊢
      by_cases h39 : a = 39
      · rw [if_pos h39] at h ⊢
        exact quoteEnd_loc _ _ _ h
      · rw [if_neg h39] at h ⊢
        by_cases h34 : a = 34
        · rw [if_pos h34] at h ⊢
          exact hv _ _ _ _ h
        · rw [if_neg h34] at h ⊢
          cases p with
          | nil =>
            cases t' with
            | nil => rfl
            | cons c r' =>
              simp only [List.nil_append, dollar]
              have hno : ∀ k, k = 40 ∨ k = 123 → ¬ (a = 36 ∧ c = k) := by
                rintro k hk' ⟨rfl, rfl⟩
                obtain ⟨r, rfl⟩ := hs c r' rfl hk'
                rcases hk' with rfl | rfl
                · have h : v 41 r = some (40 :: r) := h
                  have := hk _ _ _ h
                  simp at this
                  omega
                · have h : v 125 r = some (123 :: r) := h
                  have := hk _ _ _ h
                  simp at this
                  omega
              rw [if_neg (hno 40 (.inl rfl)), if_neg (hno 123 (.inr rfl))]
          | cons b p =>
            simp only [List.cons_append, dollar] at h ⊢
            by_cases h40 : a = 36 ∧ b = 40
            · rw [if_pos h40] at h ⊢
              exact hv _ _ _ _ h
            · rw [if_neg h40] at h ⊢
              by_cases h123 : a = 36 ∧ b = 123
              · rw [if_pos h123] at h ⊢
                exact hv _ _ _ _ h
              · rw [if_neg h123] at h ⊢
                have := congrArg List.length (Option.some.inj h)
                simp at this
                omega
theorem until_loc {d : Nat} {e : UInt8} (hu : LU (unitD d)) (hq : d ≠ 0 → LT (untilD (d - 1) 41)) : ∀ (n : Nat) (p : Txt), p.length ≤ n → ∀ t t', untilD d e (p ++ t) = some t → untilD d e (p ++ t') = some t'
  | _, [], _, t, t', h => no_take (untilD_takes d e) h
  | 0, a :: p, hn, t, t', h => absurd hn (by simp)
  | n + 1, a :: p, hn, t, t', h => by
    have ih := until_loc (e := e) hu hq n
    simp only [List.length_cons] at hn
    rw [List.cons_append, untilD_cons] at h ⊢
    by_cases hae : a = e
    · rw [if_pos hae] at h ⊢
      rw [app_nil (Option.some.inj h)]
      rfl
    · rw [if_neg hae] at h ⊢
      -- what goes on
      have on : ∀ {f : Txt → Option Txt} (q : Txt), q.length ≤ n + 1 → Ends f → Takes f → (∀ z y : Txt, q = z ++ y → y ≠ [] → f (z ++ (y ++ t)) = some (y ++ t) → f (z ++ (y ++ t')) = some (y ++ t')) → (f (q ++ t)).bind (untilD d e) = some t → (f (q ++ t')).bind (untilD d e) = some t' := by
        intro f q hq he ht hf h
        obtain ⟨x, hx, hx2⟩ := Option.bind_eq_some_iff.1 h
        obtain ⟨z, y, rfl, rfl⟩ := split_of (untilD_ends d e _ _ hx2) (he _ _ hx)
        have hlen := ht _ _ hx
        have hlen2 := untilD_takes d e _ _ hx2
        have hy : y ≠ [] := by
          rintro rfl
          simp at hlen2
        rw [List.append_assoc] at hx ⊢
        rw [hf z y rfl hy hx]
        simp only [List.length_append] at hlen hq
        exact ih y (by omega) t t' hx2
      by_cases h39 : e = 34 ∧ a = 39
      · rw [if_pos h39] at h ⊢
        by_cases hd : d = 0
        · rw [if_pos hd] at h; cases h
        · rw [if_neg hd] at h ⊢
          exact ih p (by omega) t t' h
      · rw [if_neg h39] at h ⊢
        by_cases h40 : e = 41 ∧ a = 40
        · rw [if_pos h40] at h ⊢
          by_cases hd : d = 0
          · rw [if_pos hd] at h; cases h
          · rw [if_neg hd] at h ⊢
            exact on p (by omega) (untilD_ends _ _) (untilD_takes _ _) (fun z y _ _ hf => hq hd _ _ _ hf) h
        · rw [if_neg h40] at h ⊢
          exact on (a :: p) hn (unitD_ends _) (unitD_takes _) (fun z y _ hy hf => hu _ _ _ (by
            obtain ⟨c, y, rfl⟩ := List.exists_cons_of_ne_nil hy
            exact Sim.head c _ _) hf) h
theorem lev_loc : ∀ d, LU (unitD d) ∧ ∀ e, LT (untilD d e)
  | 0 => by
    have h0 : LU (unitD 0) := fun p t t' _ h => by cases h
    exact ⟨h0, fun e p t t' h => until_loc h0 (fun h => absurd rfl h) _ p (Nat.le_refl _) t t' h⟩
  | d + 1 => by
    have ih := (lev_loc d).2
    have hu : LU (unitD (d + 1)) := unitF_loc ih (untilD_takes d)
    exact ⟨hu, fun e p t t' h => until_loc hu (fun _ => ih 41) _ p (Nat.le_refl _) t t' h⟩
theorem wordL_ends : ∀ n, Ends (wordL n)
  | 0 => fun s t h => by cases h
  | n + 1 => by
    intro s t h
    rw [wordL] at h
    split at h
    · obtain rfl := Option.some.inj h; exact List.suffix_refl _
    · split at h
      · rename_i x hx
        exact (wordL_ends n _ _ h).trans (unitD_ends 30 _ _ hx)
      · cases h
theorem wordL_end : ∀ n s t, wordL n s = some t → endsB t = true
  | 0, s, t, h => by cases h
  | n + 1, s, t, h => by
    rw [wordL] at h
    split at h
    · rename_i he
      obtain rfl := Option.some.inj h
      exact he
    · split at h
      · exact wordL_end n _ _ h
      · cases h
theorem word_loc : ∀ (n : Nat) (p : Txt), p.length ≤ n → ∀ t t', Sim t t' → endsB t' = true → wordD (p ++ t) = some t → wordD (p ++ t') = some t'
  | _, [], _, t, t', _, he, _ => wordD_ends he
  | 0, a :: p, hn, t, t', _, _, h => absurd hn (by simp)
  | n + 1, a :: p, hn, t, t', hs, he, h => by
    simp only [List.length_cons] at hn
    by_cases hb : isEnd a = true
    · rw [wordD_ends (s := a :: p ++ t) hb] at h
      have := congrArg List.length (Option.some.inj h)
      simp at this
      omega
    · have hb1 : endsB (a :: p ++ t) = false := by simpa [endsB] using hb
      have hb2 : endsB (a :: p ++ t') = false := by simpa [endsB] using hb
      cases hu : unitD 30 (a :: p ++ t) with
      | none => rw [wordD_none hb1 hu] at h; cases h
      | some x =>
        rw [wordD_unit hb1 hu] at h
        obtain ⟨z, y, rfl, hz⟩ := split_of (wordL_ends _ _ _ h) (unitD_ends 30 _ _ hu)
        have hlen := unitD_takes 30 _ _ hu
        rw [hz] at hu hb2 hlen ⊢
        have hzl := congrArg List.length hz
        simp only [List.length_append, List.length_cons] at hlen hzl
        rw [List.append_assoc] at hu hb2 ⊢
        rw [wordD_unit hb2 ((lev_loc 30).1 _ _ _ (hs.app y) hu)]
        exact word_loc n y (by omega) t t' hs he h

/-! ### Tokens -/
theorem tokOne_view {a : UInt8} {r t : Txt} {l : List Tok} (h : tokOne a r = some (l, t)) :
    ((a = 32 ∨ a = 9) ∧ l = [] ∧ t = r) ∨ (a = 35 ∧ l = [] ∧ t = lineEnd r) ∨ (a = 10 ∧ l = [(2, [10])] ∧ t = r) ∨
    ((¬ (a = 32 ∨ a = 9) ∧ ¬ a = 35 ∧ ¬ a = 10) ∧ isEnd a = true ∧ l = [(1, (a :: r).take (opLen (a :: r)))] ∧ t = (a :: r).drop (opLen (a :: r))) ∨
    ((¬ (a = 32 ∨ a = 9) ∧ ¬ a = 35 ∧ ¬ a = 10) ∧ isEnd a = false ∧ ∃ p, p ≠ [] ∧ a :: r = p ++ t ∧ wordD (p ++ t) = some t ∧ l = [(0, p)]) := by
  unfold tokOne at h
  by_cases h1 : a = 32 ∨ a = 9
  · rw [if_pos h1] at h
    obtain ⟨rfl, rfl⟩ := Prod.mk.injEq .. ▸ Option.some.inj h
    exact .inl ⟨h1, rfl, rfl⟩
  rw [if_neg h1] at h
  by_cases h2 : a = 35
  · rw [if_pos h2] at h
    obtain ⟨rfl, rfl⟩ := Prod.mk.injEq .. ▸ Option.some.inj h
    exact .inr (.inl ⟨h2, rfl, rfl⟩)
  rw [if_neg h2] at h
  by_cases h3 : a = 10
  · rw [if_pos h3] at h
    obtain ⟨rfl, rfl⟩ := Prod.mk.injEq .. ▸ Option.some.inj h
    exact .inr (.inr (.inl ⟨h3, rfl, rfl⟩))
  rw [if_neg h3] at h
  by_cases h4 : isEnd a = true
  · rw [if_pos h4] at h
    obtain ⟨rfl, rfl⟩ := Prod.mk.injEq .. ▸ Option.some.inj h
    exact .inr (.inr (.inr (.inl ⟨⟨h1, h2, h3⟩, h4, rfl, rfl⟩)))
  rw [if_neg h4] at h
  have h4 : isEnd a = false := by simpa using h4
  refine .inr (.inr (.inr (.inr ⟨⟨h1, h2, h3⟩, h4, ?_⟩)))
  split at h
  · rename_i t' ht
    obtain ⟨rfl, rfl⟩ := Prod.mk.injEq .. ▸ Option.some.inj h
    obtain ⟨p, hp⟩ := wordL_ends _ _ _ ht
    have hlen := wordD_length (s := a :: r) h4 ht
    refine ⟨p, ?_, hp.symm, by rw [hp]; exact ht, ?_⟩
    · rintro rfl
      rw [← hp] at hlen
      simp at hlen
    · rw [← hp]
      simp
  · cases h
theorem tokOne_word {a : UInt8} {r t p : Txt} (h : ¬ (a = 32 ∨ a = 9) ∧ ¬ a = 35 ∧ ¬ a = 10) (he : isEnd a = false) (hp : a :: r = p ++ t) (hw : wordD (p ++ t) = some t) : tokOne a r = some ([(0, p)], t) := by
  unfold tokOne
  rw [if_neg h.1, if_neg h.2.1, if_neg h.2.2, if_neg (by rw [he]; decide), hp, hw]
  simp
theorem tokOne_op {a : UInt8} {r : Txt} (h : ¬ (a = 32 ∨ a = 9) ∧ ¬ a = 35 ∧ ¬ a = 10) (he : isEnd a = true) : tokOne a r = some ([(1, (a :: r).take (opLen (a :: r)))], (a :: r).drop (opLen (a :: r))) := by
  unfold tokOne
  rw [if_neg h.1, if_neg h.2.1, if_neg h.2.2, if_pos he]
theorem opLen_app {a c : UInt8} {r u : Txt} (hc : c = 10 ∨ c = 32) : opLen (a :: (r ++ c :: u)) = opLen (a :: r) := by
  cases r with
  | nil =>
    show (if a = c ∧ ([38, 124, 59, 62] : Txt).contains a = true then 2 else 1) = 1
    rw [if_neg]
    rintro ⟨rfl, h⟩
    rcases hc with rfl | rfl <;> exact absurd h (by decide)
  | cons b r => rfl
theorem lineEnd_app (r y : Txt) : lineEnd (r ++ y) = if lineEnd r = [] then lineEnd y else lineEnd r ++ y := by
  induction r with
  | nil => rfl
  | cons a r ih =>
    simp only [List.cons_append, lineEnd]
    split
    · simp
    · exact ih
theorem toks_one {a : UInt8} {r t : Txt} {l : List Tok} (h : tokOne a r = some (l, t)) : toks (a :: r) = (toks t).map (l ++ ·) := by
  rw [toks_cons, h]
  rfl
theorem map_app (o : Option (List Tok)) (l m : List Tok) : (o.map (m ++ ·)).map (l ++ ·) = o.map ((l ++ m) ++ ·) := by
  cases o <;> simp
theorem map_nil (o : Option (List Tok)) : o.map (([] : List Tok) ++ ·) = o := by
  cases o <;> simp
/-- A text, and what begins with a line end or a blank. -/
theorem toks_app {y u : Txt} {c : UInt8} (hy : y = c :: u) (hc : c = 10 ∨ c = 32) (hl : toks (lineEnd y) = toks y) : ∀ (n : Nat) (s : Txt), s.length ≤ n → ∀ l, toks s = some l → toks (s ++ y) = (toks y).map (l ++ ·)
  | _, [], _, l, h => by
    obtain rfl := Option.some.inj h
    rw [map_nil]
    rfl
  | 0, a :: r, hn, l, h => absurd hn (by simp)
  | n + 1, a :: r, hn, l, h => by
    have ih := toks_app hy hc hl n
    simp only [List.length_cons] at hn
    rw [toks_cons] at h
    obtain ⟨⟨l1, t⟩, hone, h⟩ := Option.bind_eq_some_iff.1 h
    obtain ⟨l2, h2, rfl⟩ := Option.map_eq_some_iff.1 h
    dsimp only at h2
    have hlen := (tokOne_length hone).1
    have more : tokOne a (r ++ y) = some (l1, t ++ y) → toks (a :: r ++ y) = (toks y).map ((l1 ++ l2) ++ ·) := by
      intro h
      rw [List.cons_append, toks_one h, ih t (by omega) l2 h2, map_app]
    rcases tokOne_view hone with ⟨h1, rfl, rfl⟩ | ⟨rfl, rfl, rfl⟩ | ⟨rfl, rfl, rfl⟩ | ⟨h1, he, rfl, rfl⟩ | ⟨h1, he, p, hp0, hp, hw, rfl⟩
    · exact more (by unfold tokOne; rw [if_pos h1])
    · by_cases hle : lineEnd r = []
      · have h0 : tokOne 35 (r ++ y) = some ([], lineEnd y) := by
          show some (([] : List Tok), lineEnd (r ++ y)) = _
          rw [lineEnd_app, if_pos hle]
        rw [hle] at h2
        obtain rfl := Option.some.inj h2
        rw [List.cons_append, toks_one h0, hl]
        rfl
      · refine more ?_
        show some (([] : List Tok), lineEnd (r ++ y)) = _
        rw [lineEnd_app, if_neg hle]
    · exact more rfl
    · refine more ?_
      have hol := (opLen_le (a := a) (r := r)).2
      rw [tokOne_op h1 he, hy, opLen_app hc]
      have e1 : a :: (r ++ c :: u) = (a :: r) ++ c :: u := rfl
      rw [e1, List.take_append_of_le_length hol, List.drop_append_of_le_length hol]
    · refine more (tokOne_word h1 he (by rw [← List.append_assoc, ← hp]; rfl) ?_)
      have hs : Sim t (t ++ y) := by
        cases t with
        | nil =>
          rw [hy]
          intro d r' hd hk
          injection hd with hd1 hd2
          subst hd1
          rcases hc with rfl | rfl <;> rcases hk with hk | hk <;> cases hk
        | cons b t => exact Sim.head b _ _
      have he : endsB (t ++ y) = true := by
        cases t with
        | nil =>
          rw [hy]
          rcases hc with rfl | rfl <;> rfl
        | cons b t => exact (show endsB (b :: t ++ y) = endsB (b :: t) from rfl).trans (wordL_end _ _ _ hw)
      exact word_loc _ p (Nat.le_refl _) _ _ hs he hw
theorem toks_line (s t : Txt) {l k : List Tok} (hs : toks s = some l) (ht : toks t = some k) : toks (s ++ [10] ++ t) = some (l ++ [(2, [10])] ++ k) := by
  have h1 : toks (10 :: t) = some ((2, [10]) :: k) := by
    rw [toks_one (l := [(2, [10])]) (t := t) rfl, ht]
    rfl
  rw [List.append_assoc]
  show toks (s ++ 10 :: t) = _
  rw [toks_app rfl (.inl rfl) rfl _ s (Nat.le_refl _) l hs, h1]
  simp
theorem toks_comment (s t : Txt) {l k : List Tok} (hs : toks s = some l) (ht : toks t = some k) : toks (s ++ [32, 35, 32, 39, 32, 40, 32, 10] ++ t) = some (l ++ [(2, [10])] ++ k) := by
  have h1 : toks (10 :: t) = some ((2, [10]) :: k) := by
    rw [toks_one (l := [(2, [10])]) (t := t) rfl, ht]
    rfl
  have h2 : toks (32 :: 35 :: 32 :: 39 :: 32 :: 40 :: 32 :: 10 :: t) = some ((2, [10]) :: k) := by
    rw [toks_one (l := []) (t := 35 :: 32 :: 39 :: 32 :: 40 :: 32 :: 10 :: t) rfl, toks_one (l := []) (t := 10 :: t) rfl, h1]
    rfl
  rw [List.append_assoc]
  show toks (s ++ 32 :: 35 :: 32 :: 39 :: 32 :: 40 :: 32 :: 10 :: t) = _
  rw [toks_app rfl (.inr rfl) (by rw [h2]; exact h1) _ s (Nat.le_refl _) l hs, h2]
  simp

/-! ### Told again -/
def Again (x : Tok) : Prop := ∀ z, toks (x.2 ++ 32 :: z) = (toks z).map ([x] ++ ·)
theorem toks_blank (z : Txt) : toks (32 :: z) = toks z := by
  rw [toks_one (l := []) (t := z) rfl, map_nil]
theorem tokOne_again {a : UInt8} {r t : Txt} {l : List Tok} (h : tokOne a r = some (l, t)) : (l = [] ∧ t.length ≤ r.length) ∨ ∃ x, l = [x] ∧ 0 < x.2.length ∧ x.2.length + t.length ≤ r.length + 1 ∧ Again x := by
  have again : ∀ (b : UInt8) (q : Txt) (k : Nat), (∀ z, tokOne b (q ++ 32 :: z) = some ([(k, b :: q)], 32 :: z)) → Again (k, b :: q) := by
    intro b q k h z
    show toks (b :: (q ++ 32 :: z)) = _
    rw [toks_one (h z), toks_blank]
  rcases tokOne_view h with ⟨h1, rfl, rfl⟩ | ⟨rfl, rfl, rfl⟩ | ⟨rfl, rfl, rfl⟩ | ⟨h1, he, rfl, rfl⟩ | ⟨h1, he, p, hp0, hp, hw, rfl⟩
  · exact .inl ⟨rfl, Nat.le_refl _⟩
  · exact .inl ⟨rfl, lineEnd_length _⟩
  · refine .inr ⟨_, rfl, by decide, ?_, again 10 [] 2 (fun z => rfl)⟩
    show 1 + t.length ≤ t.length + 1
    omega
  · have hol := opLen_le (a := a) (r := r)
    refine .inr ⟨_, rfl, ?_, ?_, ?_⟩
    · show 0 < ((a :: r).take (opLen (a :: r))).length
      rw [List.length_take]
      simp only [List.length_cons] at hol ⊢
      omega
    · show ((a :: r).take (opLen (a :: r))).length + ((a :: r).drop (opLen (a :: r))).length ≤ r.length + 1
      rw [List.length_take, List.length_drop]
      simp only [List.length_cons] at hol ⊢
      omega
    · have one : opLen (a :: r) = 1 → Again (1, (a :: r).take (opLen (a :: r))) := by
        intro h
        rw [h]
        refine again a [] 1 fun z => ?_
        have h2 : opLen (a :: 32 :: z) = 1 := opLen_app (r := []) (.inr rfl)
        show tokOne a (32 :: z) = _
        rw [tokOne_op h1 he, h2]
        rfl
      cases r with
      | nil => exact one rfl
      | cons b r =>
        by_cases hb : a = b ∧ ([38, 124, 59, 62] : Txt).contains a = true
        · have e1 : opLen (a :: b :: r) = 2 := if_pos hb
          rw [e1]
          refine again a [b] 1 fun z => ?_
          have e2 : opLen (a :: b :: 32 :: z) = 2 := if_pos hb
          show tokOne a (b :: 32 :: z) = _
          rw [tokOne_op h1 he, e2]
          rfl
        · exact one (if_neg hb)
  · refine .inr ⟨_, rfl, List.length_pos_iff.2 hp0, ?_, ?_⟩
    · have := congrArg List.length hp
      simp only [List.length_cons, List.length_append] at this
      show p.length + t.length ≤ r.length + 1
      omega
    · cases p with
      | nil => exact absurd rfl hp0
      | cons b p =>
        injection hp with hb hp
        subst hb
        refine again a p 0 fun z => tokOne_word h1 he rfl ?_
        refine word_loc _ (a :: p) (Nat.le_refl _) _ _ ?_ rfl hw
        intro d r' hd hk
        injection hd with hd1 hd2
        subst hd1
        rcases hk with hk | hk <;> cases hk
def glue (l : List Tok) : Txt := l.flatMap fun x => x.2 ++ [32]
theorem toks_again : ∀ (n : Nat) (s : Txt), s.length ≤ n → ∀ l, toks s = some l → (glue l).length ≤ 2 * s.length ∧ ∀ x ∈ l, Again x
  | _, [], _, l, h => by
    obtain rfl := Option.some.inj h
    exact ⟨Nat.le_refl _, fun x hx => by cases hx⟩
  | 0, a :: r, hn, l, h => absurd hn (by simp)
  | n + 1, a :: r, hn, l, h => by
    simp only [List.length_cons] at hn
    rw [toks_cons] at h
    obtain ⟨⟨l1, t⟩, hone, h⟩ := Option.bind_eq_some_iff.1 h
    obtain ⟨l2, h2, rfl⟩ := Option.map_eq_some_iff.1 h
    dsimp only at h2
    have hlen := (tokOne_length hone).1
    obtain ⟨g1, g2⟩ := toks_again n t (by omega) l2 h2
    rcases tokOne_again hone with ⟨rfl, ht⟩ | ⟨x, rfl, hx0, hxt, hx⟩
    · refine ⟨?_, g2⟩
      simp only [List.nil_append, List.length_cons]
      omega
    · refine ⟨?_, fun x' hx' => ?_⟩
      · simp only [glue, List.singleton_append, List.flatMap_cons, List.length_append, List.length_cons, List.length_nil]
        simp only [glue] at g1
        omega
      · rcases List.mem_cons.1 hx' with rfl | hx'
        · exact hx
        · exact g2 _ hx'
theorem toks_glue : ∀ (l : List Tok), (∀ x ∈ l, Again x) → toks (glue l) = some l
  | [], _ => rfl
  | x :: l, h => by
    have e : glue (x :: l) = x.2 ++ 32 :: glue l := by simp [glue]
    rw [e, h x List.mem_cons_self, toks_glue l fun y hy => h y (List.mem_cons_of_mem _ hy)]
    rfl
end Go.Proofs.Ytiaonlaodcmigaa
