/- Expressions of numbers: the reference's unary and primary, step by step. Conditions: as each theorem names them. -/
import Derived.Test.YtgincpkggnndeaaGreatDoorArRef5
namespace Go.Proofs.YtgincpkggnndeaaGreatDoor
open Go.RowKit Vc
variable {g : Nat}

theorem una_long {d : Nat} {s : Txt} (h30 : 30 < d) : UnSp g d s (.bad 2) := by
  intro w V live h hc hd
  refine ref13_state_unary_calls _ _ _ _ _ ?_
  refine ⟨fun w2 => RTo w g s V (if 30 < d then 2 else 0) w2, depthJ h fun w2 h2 => h2, ?_⟩
  rintro _ w2 h2
  rw [if_pos h30] at h2
  exact ⟨_, by rw [add_row]; exact h2.1.err, bsel_of (fun _ => ⟨_, rfl, by decide, h2.2, by decide, _, h2.1⟩) (fun hx => absurd hx (by decide))⟩
def mapS (op : Txt) : Pr (Tm × Txt) → Pr (Tm × Txt)
  | .ok p => .ok (.sgn op p.1, p.2)
  | .bad k => .bad k
theorem RP.sgnQ {w w1 w2 : World} {V : List Vr} {live : Bool} {q : Pr (Tm × Txt)} {op : Txt} {n : Int} (hm : Mod (fun k => k = g) w w1) (h : RP w1 g live V q (.returned (.int .i64 n)) w2) : RP w g live V (mapS op q) (.returned (.int .i64 (una op n))) w2 := by
  cases q with
  | ok p => exact RP.sgn hm h
  | bad k =>
    obtain ⟨n', e, hi, hm2, h⟩ := h
    injection e with e
    injection e with _ e
    subst e
    exact ⟨_, rfl, una_in hi, mod_trans hm hm2, h⟩
theorem una_sgn {d : Nat} {s : Txt} {q : Pr (Tm × Txt)} (h30 : ¬ 30 < d) (ho : opAt s ∈ sgnOps) (h1 : UnSp g (d + 1) (aft s) q) : UnSp g d s (mapS (opAt s) q) := by
  intro w V live h hc hd
  have hc1 : Cnd live V q := by
    cases q with
    | ok p => exact hc.sub (t := .sgn (opAt s) p.1) (by simp only [szT]; exact Nat.le_refl _)
    | bad k => exact hc
  have hal := aft_len (sgn_ne ho)
  have htl := trim_len s
  have e1 : IntKind.i64.wrap ((d : Int) + 1) = ((d + 1 : Nat) : Int) := by rw [wrap_i64 (by omega) (by omega)]; omega
  refine ref13_state_unary_calls _ _ _ _ _ ?_
  refine ⟨fun w2 => RTo w g s V (if 30 < d then 2 else 0) w2, depthJ h fun w2 h2 => h2, ?_⟩
  rintro _ w2 h2
  rw [if_neg h30] at h2
  refine ⟨_, by rw [add_row]; exact h2.1.err, bsel_of (fun hx => absurd hx (by decide)) (fun _ => ?_)⟩
  rw [e1]
  simp only [sgnOps, List.mem_cons, List.not_mem_nil, or_false] at ho
  by_cases o1 : opAt s = [45]
  · refine (xtake_yes h2.1 (by decide) o1).mono ?_
    rintro _ w3 ⟨rfl, h3⟩
    refine .inl ⟨_, rfl, (h1 w3 V live h3.1 hc1 (by omega)).mono ?_⟩
    intro e w4 h4
    obtain ⟨n, rfl, _⟩ := h4.ret
    have := h4.sgnQ (op := opAt s) (h2.trans h3).2
    rw [o1] at this ⊢
    exact .inl ⟨_, rfl, this⟩
  refine (xtake_no h2.1 (by decide) o1).mono ?_
  rintro _ w3 ⟨rfl, h3⟩
  refine .inl ⟨_, rfl, ?_⟩
  have h3' := h2.trans h3
  by_cases o2 : opAt s = [43]
  · refine (xtake_yes h3.1 (by decide) (by rw [opAt_trim]; exact o2)).mono ?_
    rintro _ w4 ⟨rfl, h4⟩
    rw [aft_trim] at h4
    refine .inl ⟨_, rfl, (h1 w4 V live h4.1 hc1 (by omega)).mono ?_⟩
    intro e w5 h5
    obtain ⟨n, rfl, _⟩ := h5.ret
    have := h5.sgnQ (op := opAt s) (h3'.trans h4).2
    rw [o2] at this ⊢
    exact .inl ⟨_, rfl, this⟩
  refine (xtake_no h3.1 (by decide) (by rw [opAt_trim]; exact o2)).mono ?_
  rintro _ w4 ⟨rfl, h4⟩
  rw [trim_trim] at h4
  refine .inl ⟨_, rfl, ?_⟩
  have h4' := h3'.trans h4
  by_cases o3 : opAt s = [126]
  · refine (xtake_yes h4.1 (by decide) (by rw [opAt_trim]; exact o3)).mono ?_
    rintro _ w5 ⟨rfl, h5⟩
    rw [aft_trim] at h5
    refine .inl ⟨_, rfl, (h1 w5 V live h5.1 hc1 (by omega)).mono ?_⟩
    intro e w6 h6
    obtain ⟨n, rfl, _⟩ := h6.ret
    have := h6.sgnQ (op := opAt s) (h4'.trans h5).2
    rw [o3] at this ⊢
    exact .inl ⟨_, rfl, this⟩
  refine (xtake_no h4.1 (by decide) (by rw [opAt_trim]; exact o3)).mono ?_
  rintro _ w5 ⟨rfl, h5⟩
  rw [trim_trim] at h5
  refine .inl ⟨_, rfl, ?_⟩
  have h5' := h4'.trans h5
  have o4 : opAt s = [33] := by
    rcases ho with h | h | h | h
    · exact absurd h o1
    · exact absurd h o2
    · exact absurd h o3
    · exact h
  refine (xtake_yes h5.1 (by decide) (by rw [opAt_trim]; exact o4)).mono ?_
  rintro _ w6 ⟨rfl, h6⟩
  rw [aft_trim] at h6
  refine .inl ⟨_, rfl, (h1 w6 V live h6.1 hc1 (by omega)).mono ?_⟩
  intro e w7 h7
  obtain ⟨n, rfl, _⟩ := h7.ret
  have := h7.sgnQ (op := opAt s) (h5'.trans h6).2
  rw [o4] at this ⊢
  refine .inl ⟨_, rfl, (rtruth_spec _).mono ?_⟩
  rintro _ w8 ⟨rfl, rfl⟩
  exact .inl ⟨_, rfl, this⟩
def PrSp (g d : Nat) (s : Txt) (q : Pr (Tm × Txt)) : Prop := ∀ (w : World) (V : List Vr) (live : Bool), RS w g s V 0 → Cnd live V q → d + s.length ≤ 2000000 → Calls Tryz.prog fn_ref13_state_primary #[.pointer (some ⟨g, 0, none⟩), .bool live, .int .i64 (d : Int)] w (RP w g live V q)
theorem RP.from {w w1 w2 : World} {V : List Vr} {live : Bool} {q : Pr (Tm × Txt)} {e : Ending} (hm : Mod (fun k => k = g) w w1) (h : RP w1 g live V q e w2) : RP w g live V q e w2 := by
  obtain ⟨n', e, hi, hm2, h⟩ := h
  exact ⟨n', e, hi, mod_trans hm hm2, h⟩
theorem una_rest {d : Nat} {s : Txt} {q : Pr (Tm × Txt)} (h30 : ¬ 30 < d) (ho : opAt s ∉ sgnOps) (h1 : PrSp g d (trim s) q) : UnSp g d s q := by
  intro w V live h hc hd
  have htl := trim_len s
  simp only [sgnOps, List.mem_cons, List.not_mem_nil, or_false, not_or] at ho
  obtain ⟨o1, o2, o3, o4⟩ := ho
  refine ref13_state_unary_calls _ _ _ _ _ ?_
  refine ⟨fun w2 => RTo w g s V (if 30 < d then 2 else 0) w2, depthJ h fun w2 h2 => h2, ?_⟩
  rintro _ w2 h2
  rw [if_neg h30] at h2
  refine ⟨_, by rw [add_row]; exact h2.1.err, bsel_of (fun hx => absurd hx (by decide)) (fun _ => ?_)⟩
  refine (xtake_no h2.1 (by decide) o1).mono ?_
  rintro _ w3 ⟨rfl, h3⟩
  refine .inl ⟨_, rfl, ?_⟩
  refine (xtake_no h3.1 (by decide) (by rw [opAt_trim]; exact o2)).mono ?_
  rintro _ w4 ⟨rfl, h4⟩
  rw [trim_trim] at h4
  refine .inl ⟨_, rfl, ?_⟩
  refine (xtake_no h4.1 (by decide) (by rw [opAt_trim]; exact o3)).mono ?_
  rintro _ w5 ⟨rfl, h5⟩
  rw [trim_trim] at h5
  refine .inl ⟨_, rfl, ?_⟩
  refine (xtake_no h5.1 (by decide) (by rw [opAt_trim]; exact o4)).mono ?_
  rintro _ w6 ⟨rfl, h6⟩
  rw [trim_trim] at h6
  refine .inl ⟨_, rfl, (h1 w6 V live h6.1 hc (by omega)).mono ?_⟩
  intro e w7 h7
  obtain ⟨n, rfl, _⟩ := h7.ret
  exact .inl ⟨_, rfl, h7.from (((h2.trans h3).trans h4).trans (h5.trans h6)).2⟩
/-- Behind an expression that failed. -/
theorem par_bad {w w2 : World} {s' : Txt} {V V' : List Vr} {k : Nat} {n : Int} {live : Bool} {q : Pr (Tm × Txt)} (hk : k ≠ 0) (h2 : RS w2 g s' V' (k : Int)) {o : Txt} (ho : o ≠ []) {P : List PanicEntry → World → Prop}
    (hq : ∀ w3 s'', RTo w2 g s'' V' (k : Int) w3 → RP w g live V q (.returned (.int .i64 n)) w3) :
    Calls Tryz.prog fn_ref13_state_take #[.pointer (some ⟨g, 0, none⟩), .string (S o)] w2 (fun ed w3 => (∃ r : Bool, ed = .returned (.bool r) ∧ bsel (!r) (Calls Tryz.prog fn_ref13_state_fail #[.pointer (some ⟨g, 0, none⟩), .int .i64 130] w3 (fun ed1 w4 => (ed1 = .returned (.tuple #[]) ∧ RP w g live V q (.returned (.int .i64 n)) w4) ∨ (∃ ch, ed1 = .panicked ch ∧ RP w g live V q (.panicked ch) w4))) (RP w g live V q (.returned (.int .i64 n)) w3)) ∨ (∃ ch, ed = .panicked ch ∧ P ch w3)) := by
  refine (xtake_any h2 ho).mono ?_
  rintro _ w3 ⟨b, s3, rfl, h3⟩
  refine .inl ⟨_, rfl, bsel_of (fun _ => (xfail h3.1 130).mono ?_) (fun _ => hq _ _ h3)⟩
  rintro _ w4 ⟨rfl, h4⟩
  rw [if_neg (by omega)] at h4
  exact .inl ⟨rfl, hq _ _ (h3.trans h4)⟩
theorem prim_par {d : Nat} {s : Txt} {q q' : Pr (Tm × Txt)} (ho : opAt s = [40]) (h1 : ExSp g (d + 1) (aft s) q)
    (hq : q' = match q with
      | .bad k => .bad k
      | .ok p => if opAt p.2 = [41] then .ok (p.1, aft p.2) else .bad 130) : PrSp g d s q' := by
  intro w V live h hc hd
  have hal := aft_len (s := s) (by rw [ho]; decide)
  have hc1 : Cnd live V q := by
    cases live with
    | false => exact Cnd.no _ _
    | true =>
      cases q with
      | bad k => rw [hq] at hc; exact hc
      | ok p =>
        dsimp only at hq
        split at hq
        · rw [hq] at hc; exact hc.sub (Nat.le_refl _)
        · rw [hq] at hc; have := hc.bad; cases this
  have e1 : IntKind.i64.wrap ((d : Int) + 1) = ((d + 1 : Nat) : Int) := by rw [wrap_i64 (by omega) (by omega)]; omega
  refine ref13_state_primary_calls _ _ _ _ _ ?_
  refine (xtake_yes h (by decide) ho).mono ?_
  rintro _ w1 ⟨rfl, h2⟩
  refine .inl ⟨_, rfl, ?_⟩
  show Calls _ _ _ _ _
  rw [e1]
  refine (h1 w1 V live h2.1 hc1 (by omega)).mono ?_
  rintro _ w2 ⟨n, rfl, hi, hm2, h3⟩
  have hm := mod_trans h2.2 hm2
  refine .inl ⟨_, rfl, ?_⟩
  cases q with
  | bad k =>
    obtain ⟨hk, s', h3⟩ := h3
    subst hq
    exact par_bad hk h3 (by decide) fun w3 s'' h4 => ⟨_, rfl, hi, mod_trans hm h4.2, hk, _, h4.1⟩
  | ok p =>
    obtain ⟨t, r⟩ := p
    dsimp only at h3 hq
    by_cases hl : live = true
    · subst hl
      rw [if_pos rfl] at h3
      have hr : opAt r = [41] := by
        by_cases hr : opAt r = [41]
        · exact hr
        · rw [if_neg hr] at hq; rw [hq] at hc; have := hc.bad; cases this
      rw [if_pos hr] at hq
      subst hq
      cases hev : ev t V with
      | bad k =>
        rw [hev] at h3
        obtain ⟨hk, s', V', h3⟩ := h3
        exact par_bad hk h3 (by decide) fun w3 s'' h4 => ⟨_, rfl, hi, mod_trans hm h4.2, by
          dsimp only
          rw [if_pos rfl, hev]
          exact ⟨hk, _, _, h4.1⟩⟩
      | ok z =>
        rw [hev] at h3
        obtain ⟨hn, h3, hl3⟩ := h3
        refine (xtake_yes h3 (by decide) hr).mono ?_
        rintro _ w3 ⟨rfl, h4⟩
        refine .inl ⟨_, rfl, _, rfl, hi, mod_trans hm h4.2, ?_⟩
        dsimp only
        rw [if_pos rfl, hev]
        exact ⟨hn, h4.1, hl3⟩
    · rw [if_neg hl] at h3
      by_cases hr : opAt r = [41]
      · rw [if_pos hr] at hq
        subst hq
        refine (xtake_yes h3 (by decide) hr).mono ?_
        rintro _ w3 ⟨rfl, h4⟩
        refine .inl ⟨_, rfl, _, rfl, hi, mod_trans hm h4.2, ?_⟩
        dsimp only
        rw [if_neg hl]
        exact h4.1
      · rw [if_neg hr] at hq
        subst hq
        refine (xtake_no h3 (by decide) hr).mono ?_
        rintro _ w3 ⟨rfl, h4⟩
        refine .inl ⟨_, rfl, (xfail h4.1 130).mono ?_⟩
        rintro _ w4 ⟨rfl, h5⟩
        rw [if_pos rfl] at h5
        exact .inl ⟨rfl, _, rfl, hi, mod_trans hm (h4.trans h5).2, by decide, _, h5.1⟩
theorem prim_one {d : Nat} {s : Txt} (ho : opAt s ≠ [40]) (hs : trim s = s) : PrSp g d s (prim s) := by
  intro w V live h hc hd
  refine ref13_state_primary_calls _ _ _ _ _ ?_
  refine (xtake_no h (by decide) ho).mono ?_
  rintro _ w1 ⟨rfl, h1⟩
  rw [hs] at h1
  refine .inl ⟨_, rfl, ?_⟩
  have hle := wordN_le s
  refine ⟨_, h1.1.text, (rrun_spec s (by omega)).mono ?_⟩
  rintro _ w5 ⟨rfl, rfl⟩
  obtain ⟨p5, C5, r5, _, k5⟩ := h1.1.turn
  refine .inl ⟨_, rfl, _, h1.1.text, by omega, by omega, _, h1.1.text, by omega, by omega, ?_⟩
  rw [Int.toNat_natCast]
  refine stK r5 (by simp) (by simp [Value.oneCell']) fun w6 h6 hm6 hz6 => ?_
  have h6 : RS w6 g (s.drop (wordN s)) V 0 := k5 _ _ _ h6 hm6
  have hm := mod_trans h1.2 hm6
  have ep : prim s = if isName (s.take (wordN s)) = true then .ok (.nam (s.take (wordN s)), s.drop (wordN s)) else match numV (s.take (wordN s)) with
    | some n => .ok (.num n, s.drop (wordN s))
    | none => .bad 130 := rfl
  have hlt : (s.take (wordN s)).length ≤ s.length := by rw [List.length_take]; omega
  rw [ep] at hc ⊢
  generalize s.take (wordN s) = x at *
  generalize s.drop (wordN s) = r at *
  have fails : ∀ {w7 : World} {n : Int}, I64 n → RS w7 g r V 0 → Mod (fun k => k = g) w w7 → Calls Tryz.prog fn_ref13_state_fail #[.pointer (some ⟨g, 0, none⟩), .int .i64 130] w7 (fun ed w8 => (ed = .returned (.tuple #[]) ∧ RP w g live V (.bad 130) (.returned (.int .i64 n)) w8) ∨ ∃ ch, ed = .panicked ch ∧ RP w g live V (.bad 130) (.panicked ch) w8) := by
    intro w7 n hn h7 hm7
    refine (xfail h7 130).mono ?_
    rintro _ w8 ⟨rfl, h8⟩
    rw [if_pos rfl] at h8
    exact .inl ⟨rfl, _, rfl, hn, mod_trans hm7 h8.2, by decide, _, h8.1⟩
  refine bsel_of (fun hx => ?_) (fun hx => ?_)
  · have hx := of_decide_eq_true hx
    subst hx
    rw [if_neg (show ¬ isName [] = true by decide)]
    exact fails (by decide) h6 hm
  refine (risName_spec x (by omega)).mono ?_
  rintro _ w7 ⟨rfl, rfl⟩
  refine .inl ⟨_, rfl, bsel_of (fun hn => ?_) (fun hn => ?_)⟩
  · have hn : isName x = false := by simpa using hn
    rw [if_neg (by rw [hn]; decide)]
    refine (rnumber_spec x (by omega)).mono ?_
    rintro _ w8 ⟨⟨m, ok, rfl, hi, h0, hm8⟩, rfl⟩
    refine .inl ⟨_, _, rfl, ?_⟩
    cases hv : numV x with
    | none =>
      rw [hv] at hm8
      subst hm8
      exact fails hi h6 hm
    | some n =>
      rw [hv] at hm8
      obtain ⟨rfl, rfl⟩ := hm8
      refine bsel_of (fun h => absurd h (by decide)) (fun _ => ⟨_, rfl, hi, hm, ?_⟩)
      dsimp only
      split
      · exact ⟨rfl, h6, Nat.le_add_right _ _⟩
      · exact h6
  · have hn : isName x = true := by simpa using hn
    rw [if_pos hn] at hc ⊢
    cases live with
    | false =>
      refine (xget0 x).mono ?_
      rintro _ w8 ⟨rfl, rfl⟩
      exact .inl ⟨_, rfl, _, rfl, by decide, hm, h6⟩
    | true =>
      have hlen := hc.len
      simp only [szT] at hlen
      refine (xget h6 (by omega) x).mono ?_
      rintro _ w8 ⟨⟨n, rfl, hi, h8⟩, hm8⟩
      refine .inl ⟨_, rfl, _, rfl, hi, mod_trans hm hm8, ?_⟩
      dsimp only
      rw [if_pos rfl]
      simp only [ev]
      cases hg : getW x V with
      | bad k =>
        rw [hg] at h8
        exact ⟨h8.1, _, _, h8.2⟩
      | ok m =>
        rw [hg] at h8
        exact ⟨h8.1, h8.2, Nat.le_add_right _ _⟩
end Go.Proofs.YtgincpkggnndeaaGreatDoor
