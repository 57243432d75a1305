/- Scripts: what is read ahead of a line end does not depend on what stands behind it; two scripts with a line end between are the commands of both. Plain law; no program is named. Conditions: none. -/
import Derived.Test.YtcoeiiihmpnagaaDoorM2
namespace Go.Proofs.YtcoeiiihmpnagaaDoor

/-! ### Tokens ahead of a line end -/
section
variable {t : Ts}
theorem isT_app {k : Nat} {x : Txt} (h : (k, x) ≠ lineT) (s : Ts) : isT k x (s ++ lineT :: t) = isT k x s := by
  cases s with
  | nil =>
    unfold isT
    rw [Bool.eq_iff_iff, decide_eq_true_iff, decide_eq_true_iff]
    exact ⟨fun e => absurd (Option.some.inj e).symm h, fun e => by cases e⟩
  | cons a r => rfl
theorem isT_app0 {k : Nat} {x : Txt} {s : Ts} (h : s ≠ []) : isT k x (s ++ lineT :: t) = isT k x s := by
  cases s with
  | nil => exact absurd rfl h
  | cons a r => rfl
theorem isT_ne {k : Nat} {x : Txt} {s : Ts} (h : isT k x s = true) : s ≠ [] := by
  rintro rfl
  cases h
theorem isT_tail {k : Nat} {x : Txt} {s : Ts} (h : isT k x s = true) : (s ++ lineT :: t).tail = s.tail ++ lineT :: t := by
  cases s with
  | nil => exact absurd rfl (isT_ne h)
  | cons a r => rfl
theorem isW_app (s : Ts) : isW (s ++ lineT :: t) = isW s := by
  cases s with
  | nil => rfl
  | cons a r => rfl
theorem linesF_two (a b : Ts) : linesF (a ++ b) = linesF (linesF a ++ b) := by
  induction a with
  | nil => rfl
  | cons x r ih =>
    simp only [List.cons_append, linesF]
    by_cases h : x = lineT
    · rw [if_pos h, if_pos h, ih]
    · rw [if_neg h, if_neg h]
      simp only [List.cons_append, linesF]
      rw [if_neg h]
theorem linesF_idem (a : Ts) : linesF (linesF a) = linesF a := by
  have := linesF_two a []
  rw [List.append_nil, List.append_nil] at this
  exact this.symm
theorem linesF_app {s : Ts} (h : linesF s ≠ []) : linesF (s ++ lineT :: t) = linesF s ++ lineT :: t := by
  rw [linesF_two]
  cases hs : linesF s with
  | nil => exact absurd hs h
  | cons x r =>
    have h2 := linesF_idem s
    rw [hs] at h2
    simp only [linesF] at h2
    simp only [List.cons_append, linesF]
    by_cases hx : x = lineT
    · rw [if_pos hx] at h2
      have := linesF_le r
      rw [h2] at this
      simp only [List.length_cons] at this
      omega
    · rw [if_neg hx]
theorem endsF_app {s : Ts} (h : s ≠ []) : endsF (s ++ lineT :: t) = endsF s := by
  cases s with
  | nil => exact absurd rfl h
  | cons a r => rfl
theorem redirB_app (s : Ts) : redirB (s ++ lineT :: t) = redirB s := by
  unfold redirB
  rw [isT_app (by decide), isT_app (by decide), isT_app (by decide)]

/-! ### Locality -/
def Loc {α : Type} (t : Ts) (f : Pr α) : Prop := ∀ s x r, f s = .ok (x, r) → f (s ++ lineT :: t) = .ok (x, r ++ lineT :: t)
def LocN {α : Type} (t : Ts) (f : Pr α) : Prop := ∀ s x r, f s = .ok (x, r) → r ≠ [] → f (s ++ lineT :: t) = .ok (x, r ++ lineT :: t)
theorem many_loc {σ α : Type} {step : σ → Ts → Rs ((σ × Ts) ⊕ (α × Ts))} (hs : Sinks step)
    (h1 : ∀ a s a' s', step a s = .ok (.inl (a', s')) → step a (s ++ lineT :: t) = .ok (.inl (a', s' ++ lineT :: t)))
    (h2 : ∀ a s v r, step a s = .ok (.inr (v, r)) → step a (s ++ lineT :: t) = .ok (.inr (v, r ++ lineT :: t))) : ∀ (n : Nat) (a : σ) (s : Ts) (v : α) (r : Ts), many step n a s = .ok (v, r) → manyF step a (s ++ lineT :: t) = .ok (v, r ++ lineT :: t)
  | 0, _, _, _, _, h => by cases h
  | n + 1, a, s, v, r, h => by
    simp only [many] at h
    obtain ⟨y, g1, h⟩ := Rs.and_ok h
    rw [manyF_step hs]
    cases y with
    | inl y =>
      rw [h1 _ _ _ _ g1]
      exact many_loc hs h1 h2 n _ _ _ _ h
    | inr y =>
      injection h with h
      subst h
      rw [h2 _ _ _ _ g1]
      rfl
theorem many_locN {σ α : Type} {step : σ → Ts → Rs ((σ × Ts) ⊕ (α × Ts))} (hs : Sinks step) (G : Ts → Prop)
    (h1 : ∀ a s a' s', step a s = .ok (.inl (a', s')) → s' ≠ [] → step a (s ++ lineT :: t) = .ok (.inl (a', s' ++ lineT :: t)))
    (h2 : ∀ a s v r, step a s = .ok (.inr (v, r)) → G r → step a (s ++ lineT :: t) = .ok (.inr (v, r ++ lineT :: t)))
    (h3 : ∀ n a v r, many step n a [] = .ok (v, r) → ¬ G r) : ∀ (n : Nat) (a : σ) (s : Ts) (v : α) (r : Ts), many step n a s = .ok (v, r) → G r → manyF step a (s ++ lineT :: t) = .ok (v, r ++ lineT :: t)
  | 0, _, _, _, _, h, _ => by cases h
  | n + 1, a, s, v, r, h, hg => by
    simp only [many] at h
    obtain ⟨y, g1, h⟩ := Rs.and_ok h
    rw [manyF_step hs]
    cases y with
    | inl y =>
      have hne : y.2 ≠ [] := by
        intro e
        have h : many step n y.1 y.2 = .ok (v, r) := h
        rw [e] at h
        exact h3 _ _ _ _ h hg
      rw [h1 _ _ _ _ g1 hne]
      exact many_locN hs G h1 h2 h3 n _ _ _ _ h hg
    | inr y =>
      injection h with h
      subst h
      rw [h2 _ _ _ _ g1 hg]
      rfl
theorem partsF_loc : Loc t partsF := by
  intro s x r h
  match s with
  | [] => cases h
  | (k, u) :: q =>
    simp only [partsF] at h
    simp only [List.cons_append, partsF]
    split at h
    · rename_i hk
      rw [if_pos hk]
      obtain ⟨l, h1, h⟩ := Rs.and_ok h
      injection h with h
      injection h with e1 e2
      subst e1 e2
      rw [h1]
      rfl
    · cases h
theorem redirF_loc : Loc t redirF := by
  intro s x r h
  match s with
  | [] => cases h
  | (k, u) :: q =>
    simp only [redirF] at h
    simp only [List.cons_append, redirF]
    obtain ⟨l, h1, h⟩ := Rs.and_ok h
    injection h with h
    injection h with e1 e2
    subst e1 e2
    rw [partsF_loc _ _ _ h1]
    rfl
theorem redirs_loc (a : List (Txt × List Pt)) : Loc t (manyF redirsS a) := by
  intro s x r h
  refine many_loc redirsS_sinks (fun a s a' s' h => ?_) (fun a s v r h => ?_) _ a s x r h
  · unfold redirsS at h ⊢
    rw [redirB_app]
    split at h
    · rename_i hb
      rw [if_pos hb]
      obtain ⟨l, h1, h⟩ := Rs.and_ok h
      injection h with h
      injection h with h
      injection h with e1 e2
      subst e1 e2
      rw [redirF_loc _ _ _ h1]
      rfl
    · cases h
  · unfold redirsS at h ⊢
    rw [redirB_app]
    split at h
    · obtain ⟨l, _, h⟩ := Rs.and_ok h
      cases h
    · rename_i hb
      rw [if_neg hb]
      injection h with h
      injection h with h
      injection h with e1 e2
      subst e1 e2
      rfl
theorem simpleF_loc : Loc t simpleF := by
  intro s x r h
  refine many_loc simpleS_sinks (fun a s a' s' h => ?_) (fun a s v r h => ?_) _ _ s x r h
  · unfold simpleS at h ⊢
    rw [redirB_app]
    split at h
    · rename_i hb
      rw [if_pos hb]
      obtain ⟨l, h1, h⟩ := Rs.and_ok h
      injection h with h
      injection h with h
      injection h with e1 e2
      subst e1 e2
      rw [redirF_loc _ _ _ h1]
      rfl
    · rename_i hb
      rw [if_neg hb]
      split at h
      · simp only [List.cons_append]
        split at h
        · rename_i hk
          rw [if_pos hk]
          split at h
          · rename_i y hy
            obtain ⟨l, h1, h⟩ := Rs.and_ok h
            injection h with h
            injection h with h
            injection h with e1 e2
            subst e1 e2
            simp only [hy, h1]
            rfl
          · rename_i hy
            obtain ⟨l, h1, h⟩ := Rs.and_ok h
            injection h with h
            injection h with h
            injection h with e1 e2
            subst e1 e2
            simp only [hy, h1]
            rfl
        · split at h <;> cases h
      · split at h <;> cases h
  · unfold simpleS at h ⊢
    rw [redirB_app]
    split at h
    · obtain ⟨l, _, h⟩ := Rs.and_ok h
      cases h
    · rename_i hb
      rw [if_neg hb]
      split at h
      · simp only [List.cons_append]
        split at h
        · split at h <;> (obtain ⟨l, _, h⟩ := Rs.and_ok h; cases h)
        · rename_i hk
          rw [if_neg hk]
          split at h
          · cases h
          · rename_i hz
            rw [if_neg hz]
            injection h with h
            injection h with h
            injection h with e1 e2
            subst e1 e2
            rfl
      · split at h
        · cases h
        · rename_i hz
          injection h with h
          injection h with h
          injection h with e1 e2
          subst e1 e2
          show (if (2 : Nat) = 0 then _ else _) = _
          rw [if_neg (by decide), if_neg hz]
          rfl
theorem eats_ne {α : Type} {f : Pr α} (he : Eats f) {s : Ts} {x : α × Ts} (h : f s = .ok x) : s ≠ [] := by
  rintro rfl
  have := he _ _ h
  simp at this
theorem pipeF_loc {cmd : Pr Nd} (he : Eats cmd) (hc : Loc t cmd) : Loc t (pipeF cmd) := by
  intro s x r h
  unfold pipeF at h ⊢
  obtain ⟨y, h1, h⟩ := Rs.and_ok h
  have e1 : (if isT 0 tBang (s ++ lineT :: t) = true then (s ++ lineT :: t).tail else s ++ lineT :: t) = (if isT 0 tBang s = true then s.tail else s) ++ lineT :: t := by
    rw [isT_app (by decide)]
    split
    · rename_i hb
      exact isT_tail hb
    · rfl
  rw [e1, hc _ _ _ h1, isT_app (by decide)]
  simp only [Rs.and]
  refine many_loc (pipeS_sinks he _) (fun a s a' s' h => ?_) (fun a s v r h => ?_) _ _ _ x r h
  · unfold pipeS at h ⊢
    rw [isT_app (by decide)]
    split at h
    · rename_i hb
      rw [if_pos hb]
      obtain ⟨l, h1, h⟩ := Rs.and_ok h
      injection h with h
      injection h with h
      injection h with e1 e2
      subst e1 e2
      rw [isT_tail hb, linesF_app (eats_ne he h1), hc _ _ _ h1]
      rfl
    · cases h
  · unfold pipeS at h ⊢
    rw [isT_app (by decide)]
    split at h
    · obtain ⟨l, _, h⟩ := Rs.and_ok h
      cases h
    · rename_i hb
      rw [if_neg hb]
      injection h with h
      injection h with h
      injection h with e1 e2
      subst e1 e2
      rfl
theorem andB_app (s : Ts) : andB (s ++ lineT :: t) = andB s := by
  unfold andB
  rw [isT_app (by decide), isT_app (by decide)]
theorem andF_loc {cmd : Pr Nd} (he : Eats cmd) (hc : Loc t cmd) : Loc t (andF cmd) := by
  intro s x r h
  unfold andF at h ⊢
  obtain ⟨y, h1, h⟩ := Rs.and_ok h
  rw [pipeF_loc he hc _ _ _ h1]
  simp only [Rs.and]
  refine many_loc (andS_sinks he) (fun a s a' s' h => ?_) (fun a s v r h => ?_) _ _ _ x r h
  · match s with
    | [] => cases h
    | (k, u) :: q =>
      have hb' := andB_app (t := t) ((k, u) :: q)
      simp only [List.cons_append] at hb'
      simp only [andS] at h
      simp only [List.cons_append, andS]
      rw [hb']
      split at h
      · rename_i hb
        rw [if_pos hb]
        obtain ⟨l, h1, h⟩ := Rs.and_ok h
        injection h with h
        injection h with h
        injection h with e1 e2
        subst e1 e2
        rw [linesF_app (eats_ne (pipeF_eats he) h1), pipeF_loc he hc _ _ _ h1]
        rfl
      · cases h
  · match s with
    | [] =>
      injection h with h
      injection h with h
      injection h with e1 e2
      subst e1 e2
      rfl
    | (k, u) :: q =>
      have hb' := andB_app (t := t) ((k, u) :: q)
      simp only [List.cons_append] at hb'
      simp only [andS] at h
      simp only [List.cons_append, andS]
      rw [hb']
      split at h
      · obtain ⟨l, _, h⟩ := Rs.and_ok h
        cases h
      · rename_i hb
        rw [if_neg hb]
        injection h with h
        injection h with h
        injection h with e1 e2
        subst e1 e2
        rfl
theorem many_ends {cmd : Pr Nd} : ∀ n a v r, many (listS cmd) n a [] = .ok (v, r) → ¬ r ≠ []
  | 0, _, _, _, h => by cases h
  | n + 1, a, v, r, h => by
    have h : Rs.ok (listN a, ([] : Ts)) = .ok (v, r) := h
    injection h with h
    injection h with _ e2
    exact fun hn => hn e2.symm
theorem listF_loc {cmd : Pr Nd} (he : Eats cmd) (hc : Loc t cmd) : LocN t (listF cmd) := by
  intro s x r h hr
  have hne : linesF s ≠ [] := by
    intro e
    unfold listF at h
    rw [e] at h
    exact many_ends _ _ _ _ h hr
  unfold listF
  rw [linesF_app hne]
  refine many_locN (listS_sinks he) (fun r => r ≠ []) (fun a s a' s' h hs => ?_) (fun a s v r h hr => ?_) many_ends _ _ _ x r h hr
  · unfold listS at h ⊢
    split at h
    · cases h
    · rename_i hb
      obtain ⟨l, h1, h⟩ := Rs.and_ok h
      rw [endsF_app (eats_ne (andF_eats he) h1), if_neg hb, andF_loc he hc _ _ _ h1]
      simp only [Rs.and]
      split at h
      · rename_i h2
        rw [isT_app (by decide), if_pos h2]
        injection h with h
        injection h with h
        injection h with e1 e2
        subst e1 e2
        rw [isT_tail h2, linesF_app hs]
      · rename_i h2
        rw [isT_app (by decide), if_neg h2]
        split at h
        · rename_i h3
          rw [isT_app0 (isT_ne h3), if_pos h3]
          injection h with h
          injection h with h
          injection h with e1 e2
          subst e1 e2
          rw [linesF_app hs]
        · cases h
  · unfold listS at h ⊢
    split at h
    · rename_i hb
      injection h with h
      injection h with h
      injection h with e1 e2
      subst e1 e2
      rw [endsF_app hr, if_pos hb]
    · rename_i hb
      obtain ⟨l, h1, h⟩ := Rs.and_ok h
      rw [endsF_app (eats_ne (andF_eats he) h1), if_neg hb, andF_loc he hc _ _ _ h1]
      simp only [Rs.and]
      split at h
      · cases h
      · rename_i h2
        rw [isT_app (by decide), if_neg h2]
        split at h
        · cases h
        · rename_i h3
          injection h with h
          injection h with h
          injection h with e1 e2
          subst e1 e2
          rw [isT_app0 hr, if_neg h3]
theorem someF_loc {cmd : Pr Nd} (he : Eats cmd) (hc : Loc t cmd) : LocN t (someF cmd) := by
  intro s x r h hr
  unfold someF at h ⊢
  obtain ⟨y, h1, h⟩ := Rs.and_ok h
  split at h
  · cases h
  · rename_i hk
    injection h with h
    subst h
    rw [listF_loc he hc _ _ _ h1 hr]
    simp only [Rs.and]
    rw [if_neg hk]
/-- A list that ends with a token. -/
theorem took_loc {cmd : Pr Nd} (he : Eats cmd) (hc : Loc t cmd) {s : Ts} {y : Nd × Ts} (h1 : someF cmd s = .ok y) {k : Nat} {u : Txt} (hk : isT k u y.2 = true) : someF cmd (s ++ lineT :: t) = .ok (y.1, y.2 ++ lineT :: t) :=
  someF_loc he hc _ _ _ h1 (isT_ne hk)
theorem tookF_loc {k : Nat} {u : Txt} {x y : Nd × Ts} (hne : (k, u) ≠ lineT) (h : tookF k u x = .ok y) : isT k u x.2 = true ∧ tookF k u (x.1, x.2 ++ lineT :: t) = .ok (y.1, y.2 ++ lineT :: t) := by
  unfold tookF at h ⊢
  split at h
  · rename_i hb
    injection h with h
    subst h
    rw [isT_app hne, if_pos hb, isT_tail hb]
    exact ⟨hb, rfl⟩
  · cases h
theorem insideF_loc {cmd : Pr Nd} (he : Eats cmd) (hc : Loc t cmd) (kind : Int) {k : Nat} {u : Txt} (hne : (k, u) ≠ lineT) : Loc t (insideF cmd kind k u) := by
  intro s x r h
  unfold insideF at h ⊢
  obtain ⟨y, h1, h⟩ := Rs.and_ok h
  obtain ⟨h2, h3⟩ := tookF_loc (t := t) hne h
  rw [took_loc he hc h1 h2]
  exact h3
theorem bodyF_loc {cmd : Pr Nd} (he : Eats cmd) (hc : Loc t cmd) : Loc t (bodyF cmd) := by
  intro s x r h
  unfold bodyF at h ⊢
  split at h
  · rename_i hb
    rw [isT_app (by decide), if_pos hb, isT_tail hb]
    obtain ⟨y, h1, h⟩ := Rs.and_ok h
    obtain ⟨h2, h3⟩ := tookF_loc (t := t) (by decide) h
    rw [took_loc he hc h1 h2]
    exact h3
  · cases h
theorem branchF_loc {cmd br : Pr Nd} (he : Eats cmd) (hc : Loc t cmd) (hb : LocN t br) : LocN t (branchF cmd br) := by
  intro s x r h hr
  unfold branchF at h ⊢
  obtain ⟨c, h1, h⟩ := Rs.and_ok h
  obtain ⟨c', h2, h⟩ := Rs.and_ok h
  obtain ⟨y, h3, h⟩ := Rs.and_ok h
  obtain ⟨g1, g2⟩ := tookF_loc (t := t) (by decide) h2
  rw [took_loc he hc h1 g1]
  simp only [Rs.and]
  rw [g2]
  have hy : y.2 ≠ [] := by
    split at h
    · rename_i hh; exact isT_ne hh
    · split at h
      · rename_i hh; exact isT_ne hh
      · injection h with h
        injection h with _ e2
        rw [e2]
        exact hr
  simp only []
  rw [someF_loc he hc _ _ _ h3 hy]
  simp only []
  split at h
  · rename_i hh
    rw [isT_app (by decide), if_pos hh, isT_tail hh]
    obtain ⟨z, h4, h⟩ := Rs.and_ok h
    injection h with h
    injection h with e1 e2
    subst e1 e2
    rw [hb _ _ _ h4 hr]
  · rename_i hh
    rw [isT_app (by decide), if_neg hh]
    split at h
    · rename_i hh
      rw [isT_app (by decide), if_pos hh, isT_tail hh]
      obtain ⟨z, h4, h⟩ := Rs.and_ok h
      injection h with h
      injection h with e1 e2
      subst e1 e2
      rw [someF_loc he hc _ _ _ h4 hr]
    · rename_i hh
      rw [isT_app (by decide), if_neg hh]
      injection h with h
      injection h with e1 e2
      subst e1 e2
      rfl
theorem loopSF_loc {cmd : Pr Nd} (he : Eats cmd) (hc : Loc t cmd) (nm : Txt) : Loc t (loopSF cmd nm) := by
  intro s x r h
  unfold loopSF at h ⊢
  obtain ⟨c, h1, h⟩ := Rs.and_ok h
  obtain ⟨b, h2, h⟩ := Rs.and_ok h
  injection h with h
  injection h with e1 e2
  subst e1 e2
  rw [someF_loc he hc _ _ _ h1 (eats_ne (bodyF_eats he) h2)]
  simp only [Rs.and]
  rw [bodyF_loc he hc _ _ _ h2]
theorem words_loc (a : List (List Pt)) : Loc t (manyF wordsS a) := by
  intro s x r h
  refine many_loc wordsS_sinks (fun a s a' s' h => ?_) (fun a s v r h => ?_) _ a s x r h
  · unfold wordsS at h ⊢
    rw [isW_app]
    split at h
    · rename_i hb
      rw [if_pos hb]
      obtain ⟨l, h1, h⟩ := Rs.and_ok h
      injection h with h
      injection h with h
      injection h with e1 e2
      subst e1 e2
      rw [partsF_loc _ _ _ h1]
      rfl
    · cases h
  · unfold wordsS at h ⊢
    rw [isW_app]
    split at h
    · obtain ⟨l, _, h⟩ := Rs.and_ok h
      cases h
    · rename_i hb
      rw [if_neg hb]
      injection h with h
      injection h with h
      injection h with e1 e2
      subst e1 e2
      rfl
theorem eachE_loc {cmd : Pr Nd} (he : Eats cmd) (hc : Loc t cmd) (nm : Txt) (ws : List (List Pt)) (os : List Txt) : Loc t (eachE cmd nm ws os) := by
  intro s x r h
  unfold eachE at h ⊢
  obtain ⟨b, h2, h⟩ := Rs.and_ok h
  injection h with h
  injection h with e1 e2
  subst e1 e2
  have e1 : (if isT 1 tSemi (s ++ lineT :: t) = true then (s ++ lineT :: t).tail else s ++ lineT :: t) = (if isT 1 tSemi s = true then s.tail else s) ++ lineT :: t := by
    rw [isT_app (by decide)]
    split
    · rename_i hb
      exact isT_tail hb
    · rfl
  rw [e1, linesF_app (eats_ne (bodyF_eats he) h2), bodyF_loc he hc _ _ _ h2]
  rfl
theorem eachF_loc {cmd : Pr Nd} (he : Eats cmd) (hc : Loc t cmd) : Loc t (eachF cmd) := by
  intro s x r h
  match s with
  | [] => cases h
  | (k, u) :: q =>
    simp only [eachF] at h
    simp only [List.cons_append, eachF]
    split at h
    · rename_i hk
      rw [if_pos hk]
      split at h
      · rename_i hi
        obtain ⟨y, h1, h⟩ := Rs.and_ok h
        rw [linesF_app (isT_ne hi), isT_app (by decide), if_pos hi, isT_tail hi, words_loc _ _ _ _ h1]
        simp only [Rs.and]
        split at h
        · rename_i hj
          have hy : y.2 ≠ [] := hj.elim (fun h => isT_ne h) (fun h => isT_ne h)
          rw [isT_app0 hy, isT_app0 hy, if_pos hj]
          exact eachE_loc he hc _ _ _ _ _ _ h
        · cases h
      · rename_i hi
        rw [linesF_app (eats_ne (eachE_eats he _ _ _) h), isT_app (by decide), if_neg hi]
        exact eachE_loc he hc _ _ _ _ _ _ h
    · cases h
theorem ors_loc (a : List (List Pt)) : Loc t (manyF orsS a) := by
  intro s x r h
  refine many_loc orsS_sinks (fun a s a' s' h => ?_) (fun a s v r h => ?_) _ a s x r h
  · unfold orsS at h ⊢
    rw [isT_app (by decide)]
    split at h
    · rename_i hb
      rw [if_pos hb, isT_tail hb]
      obtain ⟨l, h1, h⟩ := Rs.and_ok h
      injection h with h
      injection h with h
      injection h with e1 e2
      subst e1 e2
      rw [partsF_loc _ _ _ h1]
      rfl
    · cases h
  · unfold orsS at h ⊢
    rw [isT_app (by decide)]
    split at h
    · obtain ⟨l, _, h⟩ := Rs.and_ok h
      cases h
    · rename_i hb
      rw [if_neg hb]
      injection h with h
      injection h with h
      injection h with e1 e2
      subst e1 e2
      rfl
theorem itemF_loc {cmd : Pr Nd} (he : Eats cmd) (hc : Loc t cmd) : LocN t (itemF cmd) := by
  intro s x r h hr
  unfold itemF at h ⊢
  obtain ⟨w, h1, h⟩ := Rs.and_ok h
  obtain ⟨ws, h2, h⟩ := Rs.and_ok h
  have e1 : (if isT 1 tOpen (s ++ lineT :: t) = true then (s ++ lineT :: t).tail else s ++ lineT :: t) = (if isT 1 tOpen s = true then s.tail else s) ++ lineT :: t := by
    rw [isT_app (by decide)]
    split
    · rename_i hb
      exact isT_tail hb
    · rfl
  rw [e1, partsF_loc _ _ _ h1]
  simp only [Rs.and]
  rw [ors_loc _ _ _ _ h2]
  simp only []
  split at h
  · rename_i hb
    obtain ⟨y, h3, h⟩ := Rs.and_ok h
    injection h with h
    injection h with e1 e2
    subst e1 e2
    rw [isT_app (by decide), if_pos hb, isT_tail hb, listF_loc he hc _ _ _ h3 hr]
  · cases h
theorem case_nil {cmd : Pr Nd} (he : Eats cmd) (w : List Pt) : ∀ n a v r, many (caseS cmd w) n a [] = .ok (v, r) → ¬ True
  | 0, _, _, _, h => by cases h
  | n + 1, a, v, r, h => by
    simp only [many] at h
    obtain ⟨y, h1, _⟩ := Rs.and_ok h
    have h1 : ((itemF cmd []).and fun x =>
      if isT 1 tSemi2 x.2 = true then Rs.ok (.inl (a ++ [x.1], linesF x.2.tail))
      else if isT 0 tEsac x.2 = true then .ok (.inl (a ++ [x.1], linesF x.2))
      else .bad 100) = .ok y := h1
    obtain ⟨z, h2, _⟩ := Rs.and_ok h1
    exact absurd rfl (eats_ne (itemF_eats he) h2)
theorem casesF_loc {cmd : Pr Nd} (he : Eats cmd) (hc : Loc t cmd) : Loc t (casesF cmd) := by
  intro s x r h
  unfold casesF at h ⊢
  obtain ⟨w, h1, h⟩ := Rs.and_ok h
  rw [partsF_loc _ _ _ h1]
  simp only [Rs.and]
  split at h
  · rename_i hi
    have hne : linesF (linesF w.2).tail ≠ [] := by
      intro e
      rw [e] at h
      exact case_nil he _ _ _ _ _ h trivial
    rw [linesF_app (isT_ne hi), isT_app (by decide), if_pos hi, isT_tail hi, linesF_app hne]
    refine many_locN (caseS_sinks he _) (fun _ => True) (fun a s a' s' h hs => ?_) (fun a s v r h _ => ?_) (case_nil he _) _ _ _ x r h trivial
    · unfold caseS at h ⊢
      rw [isT_app (by decide)]
      split at h
      · cases h
      · rename_i hb
        rw [if_neg hb]
        obtain ⟨l, h1, h⟩ := Rs.and_ok h
        split at h
        · rename_i h2
          rw [itemF_loc he hc _ _ _ h1 (isT_ne h2)]
          simp only [Rs.and]
          rw [isT_app (by decide), if_pos h2, isT_tail h2]
          injection h with h
          injection h with h
          injection h with e1 e2
          subst e1 e2
          rw [linesF_app hs]
        · rename_i h2
          split at h
          · rename_i h3
            rw [itemF_loc he hc _ _ _ h1 (isT_ne h3)]
            simp only [Rs.and]
            rw [isT_app (by decide), if_neg h2, isT_app (by decide), if_pos h3]
            injection h with h
            injection h with h
            injection h with e1 e2
            subst e1 e2
            rw [linesF_app hs]
          · cases h
    · unfold caseS at h ⊢
      rw [isT_app (by decide)]
      split at h
      · rename_i hb
        rw [if_pos hb, isT_tail hb]
        injection h with h
        injection h with h
        injection h with e1 e2
        subst e1 e2
        rfl
      · obtain ⟨l, _, h⟩ := Rs.and_ok h
        split at h
        · cases h
        · split at h <;> cases h
  · cases h
theorem funcB_app (s : Ts) : funcB (s ++ lineT :: t) = funcB s := by
  match s with
  | [] => rfl
  | [a] => simp [funcB, isT, lineT]
  | [a, b] =>
    simp only [List.cons_append, List.nil_append, funcB, List.tail_cons]
    rw [show isT 1 tOpen (b :: lineT :: t) = isT 1 tOpen [b] from rfl, show isT 1 tShut (lineT :: t) = isT 1 tShut [] from rfl]
  | a :: b :: c :: r => rfl
theorem defF_loc {cmd : Pr Nd} (he : Eats cmd) (hc : Loc t cmd) {s : Ts} (hf : funcB s = true) {x : Nd} {r : Ts} (h : defF cmd s = .ok (x, r)) : defF cmd (s ++ lineT :: t) = .ok (x, r ++ lineT :: t) := by
  match s with
  | [] => cases h
  | [a] => simp [funcB, isT] at hf
  | [a, b] => simp [funcB, isT] at hf
  | (k, u) :: b :: c :: q =>
    simp only [defF, List.tail_cons] at h
    simp only [List.cons_append, defF, List.tail_cons]
    obtain ⟨y, h1, h⟩ := Rs.and_ok h
    rw [linesF_app (eats_ne he h1), hc _ _ _ h1]
    simp only [Rs.and]
    split at h
    · rename_i hk
      rw [if_pos hk]
      injection h with h
      injection h with e1 e2
      subst e1 e2
      rfl
    · cases h
theorem resB_app (s : Ts) : resB (s ++ lineT :: t) = resB s := by
  cases s with
  | nil => rfl
  | cons a r => rfl
theorem withR_loc {x : Nd × Ts} {y : Nd} {r : Ts} (h : withR x = .ok (y, r)) : withR (x.1, x.2 ++ lineT :: t) = .ok (y, r ++ lineT :: t) := by
  unfold withR at h ⊢
  obtain ⟨z, h1, h⟩ := Rs.and_ok h
  injection h with h
  injection h with e1 e2
  subst e1 e2
  rw [redirs_loc _ _ _ _ h1]
  rfl
theorem compF_loc {cmd br : Pr Nd} (he : Eats cmd) (hc : Loc t cmd) (hb : LocN t br) (s : Ts) : match compF cmd br s with
    | none => compF cmd br (s ++ lineT :: t) = none
    | some f => ∃ g, compF cmd br (s ++ lineT :: t) = some g ∧ ∀ x r, f = .ok (x, r) → g = .ok (x, r ++ lineT :: t) := by
  unfold compF
  rw [isT_app (by decide), isT_app (by decide), isT_app (by decide), isT_app (by decide), isT_app (by decide), isT_app (by decide), isT_app (by decide)]
  by_cases h1 : isT 1 tOpen s = true
  · rw [if_pos h1, if_pos h1, isT_tail h1]
    exact ⟨_, rfl, fun x r h => insideF_loc he hc _ (by decide) _ _ _ h⟩
  rw [if_neg h1, if_neg h1]
  by_cases h2 : isT 0 tBrace s = true
  · rw [if_pos h2, if_pos h2, isT_tail h2]
    exact ⟨_, rfl, fun x r h => insideF_loc he hc _ (by decide) _ _ _ h⟩
  rw [if_neg h2, if_neg h2]
  by_cases h3 : isT 0 tIf s = true
  · rw [if_pos h3, if_pos h3, isT_tail h3]
    refine ⟨_, rfl, fun x r h => ?_⟩
    obtain ⟨y, g1, h⟩ := Rs.and_ok h
    obtain ⟨g2, g3⟩ := tookF_loc (t := t) (by decide) h
    rw [hb _ _ _ g1 (isT_ne g2)]
    exact g3
  rw [if_neg h3, if_neg h3]
  by_cases h4 : isT 0 tWhile s = true
  · rw [if_pos h4, if_pos h4, isT_tail h4]
    exact ⟨_, rfl, fun x r h => loopSF_loc he hc _ _ _ _ h⟩
  rw [if_neg h4, if_neg h4]
  by_cases h5 : isT 0 tUntil s = true
  · rw [if_pos h5, if_pos h5, isT_tail h5]
    exact ⟨_, rfl, fun x r h => loopSF_loc he hc _ _ _ _ h⟩
  rw [if_neg h5, if_neg h5]
  by_cases h6 : isT 0 tFor s = true
  · rw [if_pos h6, if_pos h6, isT_tail h6]
    exact ⟨_, rfl, fun x r h => eachF_loc he hc _ _ _ h⟩
  rw [if_neg h6, if_neg h6]
  by_cases h7 : isT 0 tCase s = true
  · rw [if_pos h7, if_pos h7, isT_tail h7]
    exact ⟨_, rfl, fun x r h => casesF_loc he hc _ _ _ h⟩
  rw [if_neg h7, if_neg h7]
theorem commandF_loc {cmd br : Pr Nd} (he : Eats cmd) (hc : Loc t cmd) (hb : LocN t br) : Loc t (commandF cmd br) := by
  intro s x r h
  have hcomp := compF_loc (t := t) he hc hb s
  unfold commandF at h ⊢
  split at h
  · rename_i f hf
    rw [hf] at hcomp
    obtain ⟨g, hg1, hg2⟩ := hcomp
    rw [hg1]
    obtain ⟨y, h1, h⟩ := Rs.and_ok h
    rw [hg2 _ _ h1]
    exact withR_loc h
  · rename_i hf
    rw [hf] at hcomp
    have hcomp : compF cmd br (s ++ lineT :: t) = none := hcomp
    rw [hcomp]
    simp only []
    rw [resB_app, funcB_app]
    split at h
    · cases h
    · rename_i h1
      rw [if_neg h1]
      split at h
      · rename_i h2
        rw [if_pos h2]
        exact defF_loc he hc h2 h
      · rename_i h2
        rw [if_neg h2]
        exact simpleF_loc _ _ _ h
theorem lvS_loc : ∀ L, Loc t (lvS L).1 ∧ LocN t (lvS L).2
  | 0 => ⟨fun s x r h => (by cases h), fun s x r h => (by cases h)⟩
  | L + 1 => by
    obtain ⟨h1, h2⟩ := lvS_loc L
    have h3 := branchF_loc (lvS_eats L).1 h1 h2
    exact ⟨commandF_loc (lvS_eats L).1 h1 h3, h3⟩

/-! ### Two scripts -/
theorem list_pre {cmd : Pr Nd} (p : List Nd) : ∀ (n : Nat) (a : List Nd) (s : Ts), many (listS cmd) n (p ++ a) s = (many (listS cmd) n a s).and fun x => .ok (listN (p ++ x.1.ks), x.2)
  | 0, _, _ => rfl
  | n + 1, a, s => by
    have key : listS cmd (p ++ a) s = (listS cmd a s).and fun x => match x with
        | .inl y => .ok (.inl (p ++ y.1, y.2))
        | .inr y => .ok (.inr (listN (p ++ y.1.ks), y.2)) := by
      unfold listS
      split
      · rfl
      · cases andF cmd s with
        | bad e => rfl
        | ok y =>
          simp only [Rs.and]
          by_cases h1 : isT 1 tSemi y.2 = true
          · simp [h1]
          · by_cases h2 : isT 2 [10] y.2 = true
            · simp [h1, h2]
            · simp [h1, h2, listN, Nd.ks]
    simp only [many]
    rw [key]
    cases listS cmd a s with
    | bad e => rfl
    | ok x => cases x with
      | inl y => exact list_pre p n y.1 y.2
      | inr y => rfl
theorem list_two {cmd : Pr Nd} (he : Eats cmd) (hc : Loc t cmd) : ∀ (n : Nat) (a : List Nd) (s : Ts) (ks : List Nd), linesF s = s → many (listS cmd) n a s = .ok (listN ks, []) → manyF (listS cmd) a (linesF (s ++ lineT :: t)) = manyF (listS cmd) ks (linesF t)
  | 0, _, _, _, _, h => by cases h
  | n + 1, a, s, ks, hl, h => by
    by_cases hs : s = []
    · subst hs
      have h : Rs.ok (listN a, ([] : Ts)) = .ok (listN ks, []) := h
      injection h with h
      injection h with h _
      injection h with _ _ _ _ _ _ _ h
      subst h
      show manyF (listS cmd) a (linesF (lineT :: t)) = _
      simp only [linesF, if_true]
    · have hl2 : linesF (s ++ lineT :: t) = s ++ lineT :: t := by
        have := linesF_app (t := t) (s := s) (by rw [hl]; exact hs)
        rw [hl] at this
        exact this
      rw [hl2, manyF_step (listS_sinks he)]
      simp only [many] at h
      obtain ⟨y, h1, h⟩ := Rs.and_ok h
      unfold listS at h1
      split at h1
      · injection h1 with h1
        subst h1
        injection h with h
        injection h with _ h
        exact absurd h hs
      · rename_i hb
        obtain ⟨l, h2, h1⟩ := Rs.and_ok h1
        have e : (listS cmd a (s ++ lineT :: t) = if isT 1 tSemi l.2 = true then .ok (.inl (a ++ [l.1], linesF (l.2.tail ++ lineT :: t)))
            else .ok (.inl (a ++ [l.1], linesF (l.2 ++ lineT :: t)))) ∨ (¬ isT 1 tSemi l.2 = true ∧ ¬ isT 2 [10] l.2 = true ∧ l.2 ≠ []) := by
          by_cases h3 : isT 1 tSemi l.2 = true
          · left
            unfold listS
            rw [endsF_app hs, if_neg hb, andF_loc he hc _ _ _ h2]
            simp only [Rs.and]
            rw [isT_app (by decide), if_pos h3, if_pos h3, isT_tail h3]
          · by_cases h4 : isT 2 [10] (l.2 ++ lineT :: t) = true
            · left
              unfold listS
              rw [endsF_app hs, if_neg hb, andF_loc he hc _ _ _ h2]
              simp only [Rs.and]
              rw [isT_app (by decide), if_neg h3, if_neg h3, if_pos h4]
            · right
              have h5 : l.2 ≠ [] := by
                intro e
                rw [e] at h4
                exact h4 rfl
              exact ⟨h3, fun h => h4 (by rw [isT_app0 h5]; exact h), h5⟩
        rcases e with e | ⟨e1, e2, e3⟩
        · rw [e]
          split at h1
          · rename_i h3
            injection h1 with h1
            subst h1
            rw [if_pos h3]
            simp only [Rs.and]
            have := list_two he hc n _ _ ks (linesF_idem _) h
            rw [← linesF_two] at this
            exact this
          · rename_i h3
            rw [if_neg h3]
            simp only [Rs.and]
            split at h1
            · injection h1 with h1
              subst h1
              have := list_two he hc n _ _ ks (linesF_idem _) h
              rw [← linesF_two] at this
              exact this
            · injection h1 with h1
              subst h1
              injection h with h
              injection h with g1 g2
              injection g1 with _ _ _ _ _ _ _ g1
              subst g1
              rw [g2]
              simp only [List.nil_append, linesF, if_true]
        · rw [if_neg e1, if_neg e2] at h1
          injection h1 with h1
          subst h1
          injection h with h
          injection h with _ h
          exact absurd h e3
theorem list_form {cmd : Pr Nd} : ∀ (n : Nat) (a : List Nd) (s : Ts) (x : Nd × Ts), many (listS cmd) n a s = .ok x → x.1 = listN x.1.ks
  | 0, _, _, _, h => by cases h
  | n + 1, a, s, x, h => by
    simp only [many] at h
    obtain ⟨y, h1, h⟩ := Rs.and_ok h
    cases y with
    | inl y => exact list_form n _ _ _ h
    | inr y =>
      injection h with h
      subst h
      unfold listS at h1
      split at h1
      · injection h1 with h1
        injection h1 with h1
        subst h1
        rfl
      · obtain ⟨l, _, h1⟩ := Rs.and_ok h1
        split at h1
        · cases h1
        · split at h1
          · cases h1
          · injection h1 with h1
            injection h1 with h1
            subst h1
            rfl
end
/-- Two scripts, and a line end between. -/
theorem script_two {l m : Ts} {a b : Nd} (h1 : scriptF l = .ok a) (h2 : scriptF m = .ok b) : scriptF (l ++ lineT :: m) = .ok (listN (a.ks ++ b.ks)) := by
  unfold scriptF at h1 h2 ⊢
  obtain ⟨x, g1, h1⟩ := Rs.and_ok h1
  obtain ⟨y, g2, h2⟩ := Rs.and_ok h2
  split at h1
  · rename_i e1
    split at h2
    · rename_i e2
      injection h1 with h1
      injection h2 with h2
      subst h1 h2
      have he := (lvS_eats 30).1
      have hc := (lvS_loc (t := m) 30).1
      have f1 := list_form _ _ _ _ g1
      have f2 := list_form _ _ _ _ g2
      have g1' : many (listS (lvS 30).1) ((linesF l).length + 1) [] (linesF l) = .ok (listN x.1.ks, []) := by
        rw [← f1, ← e1]
        exact g1
      have := list_two he hc _ _ _ _ (linesF_idem l) g1'
      rw [← linesF_two] at this
      have h3 : listF (lvS 30).1 (l ++ lineT :: m) = .ok (listN (x.1.ks ++ y.1.ks), []) := by
        unfold listF
        rw [this]
        have h4 := list_pre (cmd := (lvS 30).1) x.1.ks ((linesF m).length + 1) [] (linesF m)
        rw [List.append_nil] at h4
        refine h4.trans ?_
        rw [show many (listS (lvS 30).1) ((linesF m).length + 1) [] (linesF m) = .ok y from g2]
        simp only [Rs.and]
        rw [e2]
      rw [h3]
      rfl
    · cases h2
  · cases h1
theorem script_line (s : Ts) : scriptF (lineT :: s) = scriptF s := by
  unfold scriptF listF
  simp only [linesF, if_true]
theorem script_form {s : Ts} {a : Nd} (h : scriptF s = .ok a) : a = listN a.ks := by
  unfold scriptF at h
  obtain ⟨x, g1, h1⟩ := Rs.and_ok h
  split at h1
  · injection h1 with h1
    subst h1
    exact list_form _ _ _ _ g1
  · cases h1
/-- Line ends ahead of a script and behind it. -/
theorem script_lines {l : Ts} {a : Nd} (h : scriptF l = .ok a) : scriptF ([lineT, lineT] ++ l ++ [lineT, lineT]) = .ok a := by
  have h0 : scriptF [lineT] = .ok (listN []) := rfl
  have := script_two h h0
  rw [show (listN []).ks = [] from rfl, List.append_nil, ← script_form h] at this
  show scriptF (lineT :: lineT :: (l ++ [lineT, lineT])) = _
  rw [script_line, script_line]
  exact this
end Go.Proofs.YtcoeiiihmpnagaaDoor
