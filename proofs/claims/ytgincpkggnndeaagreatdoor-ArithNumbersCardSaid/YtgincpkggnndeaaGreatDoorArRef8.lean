/- Expressions of numbers: the reference's choices and assignments, step by step; and all of its reading. Conditions: as each theorem names them. -/
import Derived.Test.YtgincpkggnndeaaGreatDoorArRef7
namespace Go.Proofs.YtgincpkggnndeaaGreatDoor
open Go.RowKit Vc

/-- It failed. -/
def Er (w8 : World) (g : Nat) (live : Bool) (V : List Vr) (q : Pr (Tm × Txt)) : Prop := ∃ k s' V', k ≠ 0 ∧ RS w8 g s' V' ((k : Nat) : Int) ∧ match q with
  | .bad k' => k' = k ∧ V' = V
  | .ok p => live = true ∧ ev p.1 V = .bad k
theorem Er.rp {w w8 : World} {g : Nat} {live : Bool} {V : List Vr} {q : Pr (Tm × Txt)} {n : Int} (h : Er w8 g live V q) (hm : Mod (fun k => k = g) w w8) (hn : I64 n) : RP w g live V q (.returned (.int .i64 n)) w8 := by
  obtain ⟨k, s', V', hk, h1, h2⟩ := h
  refine ⟨_, rfl, hn, hm, ?_⟩
  cases q with
  | bad k' =>
    obtain ⟨rfl, rfl⟩ := h2
    exact ⟨hk, _, h1⟩
  | ok p =>
    obtain ⟨rfl, h2⟩ := h2
    dsimp only
    rw [if_pos rfl, h2]
    exact ⟨hk, _, _, h1⟩
theorem Er.to {w8 w9 : World} {g : Nat} {live : Bool} {V : List Vr} {q : Pr (Tm × Txt)} (h : Er w8 g live V q) : ∃ (k : Nat) (s' : Txt) (V' : List Vr), k ≠ 0 ∧ RS w8 g s' V' (k : Int) ∧ ∀ w9 s'', RS w9 g s'' V' (k : Int) → Er w9 g live V q := by
  obtain ⟨k, s', V', hk, h1, h2⟩ := h
  exact ⟨k, s', V', hk, h1, fun w9 s'' h9 => ⟨k, s'', V', hk, h9, h2⟩⟩
/-- What a choice reads, of what its parts read. -/
def ChoQ (g d : Nat) (c : Tm) (L : Nat) (qa : Pr (Tm × Txt)) (q : Pr (Tm × Txt)) : Prop := match qa with
  | .bad k => q = .bad k
  | .ok p => p.2.length < L ∧ if opAt p.2 = [58] then ∃ qb, CoSp g (d + 1) (aft p.2) qb ∧ (match qb with
    | .bad k => q = .bad k
    | .ok r => q = .ok (.cho c p.1 r.1, r.2)) else q = .bad 130
theorem cond_no {g d : Nat} {s : Txt} {qc : Pr (Tm × Txt)} (hq : match qc with
    | .bad _ => True
    | .ok p => opAt p.2 ≠ [63]) (h0 : BiSp g 1 d s qc) : CoSp g d s (match qc with
    | .bad k => .bad k
    | .ok p => .ok (p.1, trim p.2)) := by
  intro w V live h hc hd
  have hc0 : Cnd live V qc := by
    cases qc with
    | bad k => exact hc
    | ok p => exact hc.sub (Nat.le_refl _)
  refine ref13_state_cond_calls _ _ _ _ _ ?_
  refine (h0 w V live h hc0 hd).mono ?_
  rintro _ w1 ⟨n, rfl, hi, hm1, h1⟩
  refine .inl ⟨_, rfl, ?_⟩
  cases qc with
  | bad k =>
    obtain ⟨hk, s', h1⟩ := h1
    exact ⟨_, by rw [add_row]; exact h1.err, bsel_of (fun _ => ⟨_, rfl, hi, hm1, hk, _, h1⟩) (fun hx => absurd (nd hx) (by omega))⟩
  | ok p =>
    dsimp only at h1 hq ⊢
    by_cases hl : live = true
    · rw [if_pos hl] at h1
      cases hev : ev p.1 V with
      | bad k =>
        rw [hev] at h1
        obtain ⟨hk, s', V', h1⟩ := h1
        refine ⟨_, by rw [add_row]; exact h1.err, bsel_of (fun _ => ⟨_, rfl, hi, hm1, ?_⟩) (fun hx => absurd (nd hx) (by omega))⟩
        dsimp only
        rw [if_pos hl, hev]
        exact ⟨hk, _, _, h1⟩
      | ok z =>
        rw [hev] at h1
        obtain ⟨hn, h1, hv⟩ := h1
        refine ⟨_, by rw [add_row]; exact h1.err, bsel_of (fun hx => absurd hx (by decide)) (fun _ => (xtake_no h1 (by decide) hq).mono ?_)⟩
        rintro _ w3 ⟨rfl, h3⟩
        refine .inl ⟨_, rfl, bsel_of (fun _ => ⟨_, rfl, hi, mod_trans hm1 h3.2, ?_⟩) (fun hx => absurd hx (by decide))⟩
        dsimp only
        rw [if_pos hl, hev]
        exact ⟨hn, h3.1, hv⟩
    · rw [if_neg hl] at h1
      refine ⟨_, by rw [add_row]; exact h1.err, bsel_of (fun hx => absurd hx (by decide)) (fun _ => (xtake_no h1 (by decide) hq).mono ?_)⟩
      rintro _ w3 ⟨rfl, h3⟩
      refine .inl ⟨_, rfl, bsel_of (fun _ => ⟨_, rfl, hi, mod_trans hm1 h3.2, ?_⟩) (fun hx => absurd hx (by decide))⟩
      dsimp only
      rw [if_neg hl]
      exact h3.1
set_option maxHeartbeats 4000000 in
theorem cond_more {g d : Nat} {s r : Txt} {c : Tm} {qa q : Pr (Tm × Txt)} (h0 : BiSp g 1 d s (.ok (c, r))) (hrl : r.length ≤ s.length) (ho : opAt r = [63]) (h1 : ExSp g (d + 1) (aft r) qa) (hq : ChoQ g d c r.length qa q) : CoSp g d s q := by
  intro w V live h hc hd
  have hal := aft_len (s := r) (by rw [ho]; decide)
  -- where it counts, all is read
  have all : live = true → ∃ a r2 b r3, qa = .ok (a, r2) ∧ opAt r2 = [58] ∧ r2.length < r.length ∧ CoSp g (d + 1) (aft r2) (.ok (b, r3)) ∧ q = .ok (.cho c a b, r3) ∧ V.length + (szT c + szT a + szT b) < 900000 := by
    intro hl
    subst hl
    unfold ChoQ at hq
    cases qa with
    | bad k => rw [hq] at hc; have := hc.bad; cases this
    | ok p =>
      dsimp only at hq
      obtain ⟨hlt, hq⟩ := hq
      split at hq
      · rename_i h58
        obtain ⟨qb, hb, hq⟩ := hq
        cases qb with
        | bad k => rw [hq] at hc; have := hc.bad; cases this
        | ok z =>
          dsimp only at hq
          subst hq
          exact ⟨p.1, p.2, z.1, z.2, rfl, h58, hlt, hb, rfl, hc.len⟩
      · rw [hq] at hc; have := hc.bad; cases this
  have hc0 : Cnd live V (.ok (c, r)) := by
    intro hl
    obtain ⟨a, r2, b, r3, _, _, _, _, _, hlen⟩ := all hl
    exact ⟨_, _, rfl, by omega⟩
  have e1 : IntKind.i64.wrap ((d : Int) + 1) = ((d + 1 : Nat) : Int) := by rw [wrap_i64 (by omega) (by omega)]; omega
  refine ref13_state_cond_calls _ _ _ _ _ ?_
  refine (h0 w V live h hc0 hd).mono ?_
  rintro _ w1 ⟨n, rfl, hi, hm1, h2⟩
  refine .inl ⟨_, rfl, ?_⟩
  dsimp only at h2
  -- what the condition comes to
  have alt : (live = true ∧ (∃ k s' V', k ≠ 0 ∧ RS w1 g s' V' ((k : Nat) : Int) ∧ ev c V = .bad k)) ∨ (∃ V1, RS w1 g r V1 0 ∧ (if live = true then ev c V = .ok (n, V1) ∧ V1.length ≤ V.length + szT c else V1 = V)) := by
    by_cases hl : live = true
    · rw [if_pos hl] at h2
      cases hev : ev c V with
      | bad k =>
        rw [hev] at h2
        obtain ⟨hk, s', V', h2⟩ := h2
        exact .inl ⟨hl, k, s', V', hk, h2, rfl⟩
      | ok z =>
        rw [hev] at h2
        refine .inr ⟨z.2, h2.2.1, ?_⟩
        rw [if_pos hl, h2.1]
        exact ⟨rfl, h2.2.2⟩
    · rw [if_neg hl] at h2
      exact .inr ⟨V, h2, by rw [if_neg hl]⟩
  rcases alt with ⟨hl, k, s', V', hk, h2, hev⟩ | ⟨V1, h2, hlive⟩
  · refine ⟨_, by rw [add_row]; exact h2.err, bsel_of (fun _ => ?_) (fun hx => absurd (nd hx) (by omega))⟩
    obtain ⟨a, r2, b, r3, rfl, h58, hlt, hb, rfl, hlen⟩ := all hl
    refine Er.rp ⟨k, s', V', hk, h2, hl, ?_⟩ hm1 hi
    simp only [ev]
    rw [hev]
    rfl
  refine ⟨_, by rw [add_row]; exact h2.err, bsel_of (fun hx => absurd hx (by decide)) (fun _ => (xtake_yes h2 (by decide) ho).mono ?_)⟩
  rintro _ w2 ⟨rfl, h3⟩
  refine .inl ⟨_, rfl, bsel_of (fun hx => absurd hx (by decide)) (fun _ => ?_)⟩
  have hm2 := mod_trans hm1 h3.2
  rw [e1]
  refine ⟨fun a1 w5 => RP w2 g (live && !decide (n = 0)) V1 qa (.returned (.int .i64 a1)) w5, bsel_of (fun hl => ?_) (fun hl => ?_), ?_⟩
  · subst hl
    obtain ⟨a, r2, b, r3, rfl, h58, hlt, hb, rfl, hlen⟩ := all rfl
    rw [if_pos rfl] at hlive
    have hc1 : Cnd (!decide (n = 0)) V1 (.ok (a, r2)) := fun _ => ⟨_, _, rfl, by omega⟩
    refine (h1 w2 V1 (!decide (n = 0)) h3.1 hc1 (by omega)).mono ?_
    intro e w5 h5
    obtain ⟨n5, rfl, _⟩ := h5.ret
    exact .inl ⟨_, rfl, h5⟩
  · subst hl
    refine (h1 w2 V1 false h3.1 (Cnd.no _ _) (by omega)).mono ?_
    intro e w5 h5
    obtain ⟨n5, rfl, _⟩ := h5.ret
    exact .inl ⟨_, rfl, h5⟩
  rintro a1 _ w5 ⟨a1', e, hi5, hm5, h5⟩
  injection e with e
  injection e with _ e
  subst e
  have hm25 := mod_trans hm2 hm5
  -- what the first part comes to
  have alt : Er w5 g live V q ∨ (live = false ∧ q = .bad 130 ∧ ∃ s', opAt s' ≠ [58] ∧ RS w5 g s' V 0) ∨ (∃ a r2 qb V2, qa = .ok (a, r2) ∧ opAt r2 = [58] ∧ r2.length < r.length ∧ CoSp g (d + 1) (aft r2) qb ∧ (match qb with
      | .bad k => q = .bad k
      | .ok r => q = .ok (.cho c a r.1, r.2)) ∧ RS w5 g r2 V2 0 ∧ (if live = true then (if n = 0 then V2 = V1 else ev a V1 = .ok (a1, V2) ∧ V2.length ≤ V1.length + szT a) else V2 = V)) := by
    by_cases hl : live = true
    · subst hl
      obtain ⟨a, r2, b, r3, rfl, h58, hlt, hb, rfl, hlen⟩ := all rfl
      rw [if_pos rfl] at hlive
      dsimp only at h5
      by_cases hz : n = 0
      · rw [decide_eq_true hz, if_neg (by decide)] at h5
        exact .inr (.inr ⟨a, r2, _, V1, rfl, h58, hlt, hb, rfl, h5, by rw [if_pos rfl, if_pos hz]⟩)
      · rw [decide_eq_false hz, if_pos (by decide)] at h5
        cases hev : ev a V1 with
        | bad k =>
          rw [hev] at h5
          obtain ⟨hk, s', V', h5⟩ := h5
          refine .inl ⟨k, s', V', hk, h5, rfl, ?_⟩
          simp only [ev]
          rw [hlive.1]
          simp only [andP]
          rw [if_pos hz, hev]
        | ok z =>
          rw [hev] at h5
          refine .inr (.inr ⟨a, r2, _, z.2, rfl, h58, hlt, hb, rfl, h5.2.1, ?_⟩)
          rw [if_pos rfl, if_neg hz, hev, h5.1]
          exact ⟨rfl, h5.2.2⟩
    · have hl : live = false := by simpa using hl
      subst hl
      rw [if_neg (by decide)] at hlive
      subst hlive
      cases qa with
      | bad k =>
        obtain ⟨hk, s', h5⟩ := h5
        have hq : q = .bad k := hq
        subst hq
        exact .inl ⟨k, s', V1, hk, h5, rfl, rfl⟩
      | ok p =>
        unfold ChoQ at hq
        dsimp only at hq h5
        rw [show (false && !decide (n = 0)) = false from rfl, if_neg (by decide)] at h5
        obtain ⟨hlt, hq⟩ := hq
        split at hq
        · rename_i h58
          obtain ⟨qb, hb, hq⟩ := hq
          exact .inr (.inr ⟨p.1, p.2, qb, V1, rfl, h58, hlt, hb, hq, h5, by rw [if_neg (by decide)]⟩)
        · rename_i h58
          exact .inr (.inl ⟨rfl, hq, p.2, h58, h5⟩)
  refine ⟨fun w8 => Mod (fun k => k = g) w w8 ∧ (Er w8 g live V q ∨ (∃ a r2 qb V2, qa = .ok (a, r2) ∧ opAt r2 = [58] ∧ r2.length < r.length ∧ CoSp g (d + 1) (aft r2) qb ∧ (match qb with
      | .bad k => q = .bad k
      | .ok r => q = .ok (.cho c a r.1, r.2)) ∧ RS w8 g (aft r2) V2 0 ∧ (if live = true then (if n = 0 then V2 = V1 else ev a V1 = .ok (a1, V2) ∧ V2.length ≤ V1.length + szT a) else V2 = V))), ?_, ?_⟩
  · rcases alt with her | ⟨hl, rfl, s', h58, h5⟩ | ⟨a, r2, qb, V2, rfl, h58, hlt, hb, hqb, h5, hv2⟩
    · obtain ⟨k, s', V', hk, h6, hto⟩ := her.to (w9 := w5)
      refine (xtake_any h6 (by decide)).mono ?_
      rintro _ w6 ⟨b, s6, rfl, h7⟩
      refine .inl ⟨_, rfl, bsel_of (fun _ => (xfail h7.1 130).mono ?_) (fun _ => ⟨mod_trans hm25 h7.2, .inl (hto _ _ h7.1)⟩)⟩
      rintro _ w7 ⟨rfl, h8⟩
      rw [if_neg (by omega)] at h8
      exact .inl ⟨rfl, mod_trans hm25 (h7.trans h8).2, .inl (hto _ _ h8.1)⟩
    · refine (xtake_no h5 (by decide) h58).mono ?_
      rintro _ w6 ⟨rfl, h7⟩
      refine .inl ⟨_, rfl, bsel_of (fun _ => (xfail h7.1 130).mono ?_) (fun hx => absurd hx (by decide))⟩
      rintro _ w7 ⟨rfl, h8⟩
      rw [if_pos rfl] at h8
      exact .inl ⟨rfl, mod_trans hm25 (h7.trans h8).2, .inl ⟨130, _, V, by decide, h8.1, rfl, rfl⟩⟩
    · refine (xtake_yes h5 (by decide) h58).mono ?_
      rintro _ w6 ⟨rfl, h7⟩
      exact .inl ⟨_, rfl, bsel_of (fun hx => absurd hx (by decide)) (fun _ => ⟨mod_trans hm25 h7.2, .inr ⟨a, r2, qb, V2, rfl, h58, hlt, hb, hqb, h7.1, hv2⟩⟩)⟩
  rintro _ w8 ⟨hm8, hst⟩
  rcases hst with her | ⟨a, r2, qb, V2, rfl, h58, hlt, hb, hqb, h8, hv2⟩
  · obtain ⟨k, s', V', hk, h6, hto⟩ := her.to (w9 := w8)
    refine bsel_of (fun _ => ?_) (fun _ => ?_)
    · refine (dead_cond h6 (by omega) _ _).mono ?_
      rintro _ w9 ⟨rfl, h9⟩
      exact .inl ⟨_, rfl, bsel_of (fun _ => (hto _ _ h9.1).rp (mod_trans hm8 h9.2) hi5) (fun _ => (hto _ _ h9.1).rp (mod_trans hm8 h9.2) (by decide))⟩
    · refine (dead_cond h6 (by omega) _ _).mono ?_
      rintro _ w9 ⟨rfl, h9⟩
      exact .inl ⟨_, rfl, bsel_of (fun _ => (hto _ _ h9.1).rp (mod_trans hm8 h9.2) hi5) (fun _ => (hto _ _ h9.1).rp (mod_trans hm8 h9.2) (by decide))⟩
  have hal2 := aft_len (s := r2) (by rw [h58]; decide)
  refine bsel_of (fun hl => ?_) (fun hl => ?_)
  · subst hl
    rw [if_pos rfl] at hlive hv2
    obtain ⟨a', r2', b, r3, e, _, _, _, eq, hlen⟩ := all rfl
    injection e with e
    injection e with ea er
    subst ea er
    cases qb with
    | bad k => rw [hqb] at eq; cases eq
    | ok z =>
    rw [hqb] at eq
    injection eq with eq
    injection eq with eq1 eq2
    injection eq1 with _ _ eq1
    dsimp only at hqb
    subst hqb
    subst eq1
    have hv2l : V2.length ≤ V.length + szT c + szT a := by
      split at hv2
      · rw [hv2]; omega
      · omega
    refine (hb w8 V2 (decide (n = 0)) h8 (fun _ => ⟨_, _, rfl, by omega⟩) (by omega)).mono ?_
    rintro _ w9 ⟨n9, rfl, hi9, hm9, h9⟩
    dsimp only at h9
    have hev : ev (.cho c a z.1) V = if n ≠ 0 then ev a V1 else ev z.1 V1 := by
      simp only [ev]
      rw [hlive.1]
      rfl
    refine .inl ⟨_, rfl, ?_⟩
    by_cases hz : n = 0
    · rw [if_pos hz] at hv2
      subst hv2
      rw [decide_eq_true hz, if_pos rfl] at h9
      rw [if_neg (fun e => e hz)] at hev
      refine bsel_of (fun hx => absurd hx (by rw [decide_eq_true hz]; decide)) (fun _ => ⟨_, rfl, hi9, mod_trans hm8 hm9, ?_⟩)
      dsimp only
      rw [if_pos rfl, hev]
      cases hev2 : ev z.1 V2 with
      | bad k =>
        rw [hev2] at h9
        exact h9
      | ok y =>
        rw [hev2] at h9
        exact ⟨h9.1, h9.2.1, by simp only [szT]; omega⟩
    · rw [if_neg hz] at hv2
      rw [decide_eq_false hz, if_neg (by decide)] at h9
      rw [if_pos hz] at hev
      refine bsel_of (fun _ => ⟨_, rfl, hi5, mod_trans hm8 hm9, ?_⟩) (fun hx => absurd (nd hx) hz)
      dsimp only
      rw [if_pos rfl, hev, hv2.1]
      exact ⟨rfl, h9, by simp only [szT]; omega⟩
  · subst hl
    rw [if_neg (by decide)] at hlive hv2
    subst hv2
    refine (hb w8 V2 false h8 (Cnd.no _ _) (by omega)).mono ?_
    rintro _ w9 ⟨n9, rfl, hi9, hm9, h9⟩
    have fin : ∀ n', I64 n' → RP w g false V2 q (.returned (.int .i64 n')) w9 := by
      intro n' hn'
      refine ⟨_, rfl, hn', mod_trans hm8 hm9, ?_⟩
      cases qb with
      | bad k =>
        have hqb : q = .bad k := hqb
        subst hqb
        exact h9
      | ok z =>
        dsimp only at hqb h9
        subst hqb
        exact h9
    exact .inl ⟨_, rfl, bsel_of (fun _ => fin _ hi5) (fun _ => fin _ hi9)⟩
end Go.Proofs.YtgincpkggnndeaaGreatDoor
