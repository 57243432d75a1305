/- Units of a text: a unit of few bytes needs few levels, and what stands behind it does not matter. Plain law; no program is named. Conditions: none. -/
import Derived.Test.YtckcdbkggaoomaaDoorLx
namespace Go.Proofs.YtckcdbkggaoomaaDoor
open Go.RowKit Vc

theorem unit_few : ∀ n : Nat, (∀ D d s t, s.length ≤ n → unitD D s = some t → s.length ≤ t.length + 2 * d → unitD d s = some t) ∧ (∀ D d e s t, s.length ≤ n → untilD D e s = some t → s.length ≤ t.length + 2 * d + 1 → untilD d e s = some t) := by
  intro n
  induction n with
  | zero =>
    refine ⟨fun D d s t hs h _ => ?_, fun D d e s t hs h _ => ?_⟩
    · have := unitD_takes D _ _ h
      omega
    · have := untilD_takes D e _ _ h
      omega
  | succ n ih =>
    have hu : ∀ D d s t, s.length ≤ n + 1 → unitD D s = some t → s.length ≤ t.length + 2 * d → unitD d s = some t := by
      intro D d s t hs h hd
      have hlt := unitD_takes D _ _ h
      obtain ⟨d, rfl⟩ : ∃ k, d = k + 1 := ⟨d - 1, by omega⟩
      cases D with
      | zero => cases h
      | succ D =>
        have h : unitF (untilD D) s = some t := h
        show unitF (untilD d) s = some t
        cases s with
        | nil => cases h
        | cons a r =>
          simp only [List.length_cons] at hs hd hlt
          have sub : ∀ e x, x.length ≤ r.length → untilD D e x = some t → untilD d e x = some t := fun e x hx h => ih.2 D d e x t (by omega) h (by omega)
          simp only [unitF] at h ⊢
          split
          · rename_i h92
            rw [if_pos h92] at h
            exact h
          · rename_i h92
            rw [if_neg h92] at h
            split
            · rename_i h39
              rw [if_pos h39] at h
              exact h
            · rename_i h39
              rw [if_neg h39] at h
              split
              · rename_i h34
                rw [if_pos h34] at h
                exact sub _ _ (Nat.le_refl _) h
              · rename_i h34
                rw [if_neg h34] at h
                cases r with
                | nil => exact h
                | cons b y =>
                  simp only [dollar] at h ⊢
                  split
                  · rename_i h40
                    rw [if_pos h40] at h
                    exact sub _ _ (by simp) h
                  · rename_i h40
                    rw [if_neg h40] at h
                    split
                    · rename_i h123
                      rw [if_pos h123] at h
                      exact sub _ _ (by simp) h
                    · rename_i h123
                      rw [if_neg h123] at h
                      exact h
    refine ⟨hu, fun D d e s t hs h hd => ?_⟩
    cases s with
    | nil => rw [untilD_nil] at h; cases h
    | cons c r =>
      simp only [List.length_cons] at hs hd
      rw [untilD_cons] at h ⊢
      by_cases hce : c = e
      · rw [if_pos hce] at h ⊢
        exact h
      · rw [if_neg hce] at h ⊢
        by_cases h39 : e = 34 ∧ c = 39
        · rw [if_pos h39] at h ⊢
          by_cases hD : D = 0
          · rw [if_pos hD] at h; cases h
          · rw [if_neg hD] at h
            have := untilD_takes D e _ _ h
            rw [if_neg (by omega)]
            exact ih.2 D d e r t (by omega) h (by omega)
        · rw [if_neg h39] at h ⊢
          by_cases h40 : e = 41 ∧ c = 40
          · rw [if_pos h40] at h ⊢
            by_cases hD : D = 0
            · rw [if_pos hD] at h; cases h
            · rw [if_neg hD] at h
              obtain ⟨u, h1, h2⟩ := Option.bind_eq_some_iff.1 h
              have k1 := untilD_takes _ _ _ _ h1
              have k2 := untilD_takes _ _ _ _ h2
              rw [if_neg (by omega)]
              rw [ih.2 (D - 1) (d - 1) 41 r u (by omega) h1 (by omega)]
              exact ih.2 D d e u t (by omega) h2 (by omega)
          · rw [if_neg h40] at h ⊢
            obtain ⟨u, h1, h2⟩ := Option.bind_eq_some_iff.1 h
            have k1 := unitD_takes _ _ _ h1
            have k2 := untilD_takes _ _ _ _ h2
            simp only [List.length_cons] at k1
            rw [hu D d (c :: r) u (by simpa using hs) h1 (by simp only [List.length_cons]; omega)]
            exact ih.2 D d e u t (by omega) h2 (by omega)
theorem unitD_few {D d : Nat} {s t : Txt} (h : unitD D s = some t) (hd : s.length ≤ t.length + 2 * d) : unitD d s = some t := (unit_few s.length).1 D d s t (Nat.le_refl _) h hd
theorem untilD_few {D d : Nat} {e : UInt8} {s t : Txt} (h : untilD D e s = some t) (hd : s.length ≤ t.length + 2 * d + 1) : untilD d e s = some t := (unit_few s.length).2 D d e s t (Nat.le_refl _) h hd
/-- t' begins with a bracket only where t does. -/
def Sim (t t' : Txt) : Prop := ∀ c r', t' = c :: r' → (c = 40 ∨ c = 123) → ∃ r, t = c :: r
theorem Sim.head (c : UInt8) (t t' : Txt) : Sim (c :: t) (c :: t') := fun d r' h _ => ⟨t, by injection h with h1 h2; rw [h1]⟩
theorem Sim.app {t t' : Txt} (h : Sim t t') : ∀ y : Txt, Sim (y ++ t) (y ++ t')
  | [] => h
  | c :: _y => Sim.head c _ _
def LU (f : Txt → Option Txt) : Prop := ∀ p t t', Sim t t' → f (p ++ t) = some t → f (p ++ t') = some t'
def LT (f : Txt → Option Txt) : Prop := ∀ p t t', f (p ++ t) = some t → f (p ++ t') = some t'
theorem no_take {f : Txt → Option Txt} (hf : Takes f) {t : Txt} {A : Prop} (h : f t = some t) : A := absurd (hf _ _ h) (Nat.lt_irrefl _)
theorem app_nil {p t : Txt} (h : p ++ t = t) : p = [] := by
  have := congrArg List.length h
  rw [List.length_append] at this
  exact List.eq_nil_of_length_eq_zero (by omega)
theorem split_of {p t x : Txt} (h : t <:+ x) (hx : x <:+ p ++ t) : ∃ z y, x = y ++ t ∧ p = z ++ y := by
  obtain ⟨y, rfl⟩ := h
  obtain ⟨z, hz⟩ := hx
  rw [← List.append_assoc] at hz
  exact ⟨z, y, rfl, (List.append_cancel_right hz).symm⟩
theorem quoteEnd_loc : LT quoteEnd
  | [], t, t', h => no_take (fun _ _ => quoteEnd_length) h
  | a :: p, t, t', h => by
    simp only [List.cons_append, quoteEnd] at h ⊢
    split at h
    · rename_i ha
      rw [if_pos ha, app_nil (Option.some.inj h)]
      rfl
    · rename_i ha
      rw [if_neg ha]
      exact quoteEnd_loc p t t' h
theorem unitF_loc {v : UInt8 → Txt → Option Txt} (hv : ∀ e, LT (v e)) (hk : ∀ e, Takes (v e)) : LU (unitF v) := by
  intro p t t' hs h
  cases p with
  | nil => exact no_take (unitF_takes hk) h
  | cons a p =>
    simp only [List.cons_append, unitF] at h ⊢
    by_cases h92 : a = 92
    · rw [if_pos h92] at h ⊢
      cases p with
      | nil =>
        cases t with
        | nil => cases h
        | cons b t =>
          have h : t = b :: t := Option.some.inj h
          have := congrArg List.length h
          simp at this
      | cons b p =>
        have h : p ++ t = t := Option.some.inj h
        rw [app_nil h]
        rfl
    · rw [if_neg h92] at h ⊢
      by_cases h39 : a = 39
      · rw [if_pos h39] at h ⊢
        exact quoteEnd_loc _ _ _ h
      · rw [if_neg h39] at h ⊢
        by_cases h34 : a = 34
        · rw [if_pos h34] at h ⊢
          exact hv _ _ _ _ h
        · rw [if_neg h34] at h ⊢
          cases p with
          | nil =>
            cases t' with
            | nil => rfl
            | cons c r' =>
              simp only [List.nil_append, dollar]
              have hno : ∀ k, k = 40 ∨ k = 123 → ¬ (a = 36 ∧ c = k) := by
                rintro k hk' ⟨rfl, rfl⟩
                obtain ⟨r, rfl⟩ := hs c r' rfl hk'
                rcases hk' with rfl | rfl
                · have h : v 41 r = some (40 :: r) := h
                  have := hk _ _ _ h
                  simp at this
                  omega
                · have h : v 125 r = some (123 :: r) := h
                  have := hk _ _ _ h
                  simp at this
                  omega
              rw [if_neg (hno 40 (.inl rfl)), if_neg (hno 123 (.inr rfl))]
          | cons b p =>
            simp only [List.cons_append, dollar] at h ⊢
            by_cases h40 : a = 36 ∧ b = 40
            · rw [if_pos h40] at h ⊢
              exact hv _ _ _ _ h
            · rw [if_neg h40] at h ⊢
              by_cases h123 : a = 36 ∧ b = 123
              · rw [if_pos h123] at h ⊢
                exact hv _ _ _ _ h
              · rw [if_neg h123] at h ⊢
                have := congrArg List.length (Option.some.inj h)
                simp at this
                omega
theorem until_loc {d : Nat} {e : UInt8} (hu : LU (unitD d)) (hq : d ≠ 0 → LT (untilD (d - 1) 41)) : ∀ (n : Nat) (p : Txt), p.length ≤ n → ∀ t t', untilD d e (p ++ t) = some t → untilD d e (p ++ t') = some t'
  | _, [], _, t, t', h => no_take (untilD_takes d e) h
  | 0, a :: p, hn, t, t', h => absurd hn (by simp)
  | n + 1, a :: p, hn, t, t', h => by
    have ih := until_loc (e := e) hu hq n
    simp only [List.length_cons] at hn
    rw [List.cons_append, untilD_cons] at h ⊢
    by_cases hae : a = e
    · rw [if_pos hae] at h ⊢
      rw [app_nil (Option.some.inj h)]
      rfl
    · rw [if_neg hae] at h ⊢
      -- what goes on
      have on : ∀ {f : Txt → Option Txt} (q : Txt), q.length ≤ n + 1 → Ends f → Takes f → (∀ z y : Txt, q = z ++ y → y ≠ [] → f (z ++ (y ++ t)) = some (y ++ t) → f (z ++ (y ++ t')) = some (y ++ t')) → (f (q ++ t)).bind (untilD d e) = some t → (f (q ++ t')).bind (untilD d e) = some t' := by
        intro f q hq he ht hf h
        obtain ⟨x, hx, hx2⟩ := Option.bind_eq_some_iff.1 h
        obtain ⟨z, y, rfl, rfl⟩ := split_of (untilD_ends d e _ _ hx2) (he _ _ hx)
        have hlen := ht _ _ hx
        have hlen2 := untilD_takes d e _ _ hx2
        have hy : y ≠ [] := by
          rintro rfl
          simp at hlen2
        rw [List.append_assoc] at hx ⊢
        rw [hf z y rfl hy hx]
        simp only [List.length_append] at hlen hq
        exact ih y (by omega) t t' hx2
      by_cases h39 : e = 34 ∧ a = 39
      · rw [if_pos h39] at h ⊢
        by_cases hd : d = 0
        · rw [if_pos hd] at h; cases h
        · rw [if_neg hd] at h ⊢
          exact ih p (by omega) t t' h
      · rw [if_neg h39] at h ⊢
        by_cases h40 : e = 41 ∧ a = 40
        · rw [if_pos h40] at h ⊢
          by_cases hd : d = 0
          · rw [if_pos hd] at h; cases h
          · rw [if_neg hd] at h ⊢
            exact on p (by omega) (untilD_ends _ _) (untilD_takes _ _) (fun z y _ _ hf => hq hd _ _ _ hf) h
        · rw [if_neg h40] at h ⊢
          exact on (a :: p) hn (unitD_ends _) (unitD_takes _) (fun z y _ hy hf => hu _ _ _ (by
            obtain ⟨c, y, rfl⟩ := List.exists_cons_of_ne_nil hy
            exact Sim.head c _ _) hf) h
theorem lev_loc : ∀ d, LU (unitD d) ∧ ∀ e, LT (untilD d e)
  | 0 => by
    have h0 : LU (unitD 0) := fun p t t' _ h => by cases h
    exact ⟨h0, fun e p t t' h => until_loc h0 (fun h => absurd rfl h) _ p (Nat.le_refl _) t t' h⟩
  | d + 1 => by
    have ih := (lev_loc d).2
    have hu : LU (unitD (d + 1)) := unitF_loc ih (untilD_takes d)
    exact ⟨hu, fun e p t t' h => until_loc hu (fun _ => ih 41) _ p (Nat.le_refl _) t t' h⟩
end Go.Proofs.YtckcdbkggaoomaaDoor
