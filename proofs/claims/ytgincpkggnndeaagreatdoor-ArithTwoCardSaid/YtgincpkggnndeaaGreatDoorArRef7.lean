/- Expressions of numbers: the reference's operators of two, step by step. Conditions: as each theorem names them. -/
import Derived.Test.YtgincpkggnndeaaGreatDoorArRef6
namespace Go.Proofs.YtgincpkggnndeaaGreatDoor
open Go.RowKit Vc

theorem Lp.next {g m d : Nat} {a : Tm} {s : Txt} {q : Pr (Tm × Txt)} (h : Lp g m d a s q) : ((lvl (opAt s) < m ∨ lvl (opAt s) = 0) ∧ q = .ok (a, trim s)) ∨ (¬ (lvl (opAt s) < m ∨ lvl (opAt s) = 0) ∧ ∃ q1, BiSp g (lvl (opAt s) + 1) d (aft s) q1 ∧ match q1 with
    | .bad k => q = .bad k
    | .ok p => Lp g m d (.bin (opAt s) a p.1) p.2 q ∧ p.2.length ≤ (aft s).length) := by
  cases h with
  | done h => exact .inl ⟨h, rfl⟩
  | bad h h1 => exact .inr ⟨h, _, h1, rfl⟩
  | step h h1 hl h2 => exact .inr ⟨h, _, h1, h2, hl⟩
def rm (g : Nat) (w : World) : Nat := match w.cell? ⟨g, 2, none⟩ with
  | some (.int _ e) => if e = 0 then textLen g w + 1 else 0
  | _ => 0
theorem rm_ok {w : World} {g : Nat} {s : Txt} {V : List Vr} (h : RS w g s V 0) : rm g w = s.length + 1 := by
  unfold rm
  rw [h.err]
  dsimp only
  rw [if_pos rfl]
  obtain ⟨p, C, h1, _⟩ := h.turn
  rw [textLen_s h1]
theorem rm_bad {w : World} {g : Nat} {s : Txt} {V : List Vr} {k : Nat} (hk : k ≠ 0) (h : RS w g s V (k : Int)) : rm g w = 0 := by
  unfold rm
  rw [h.err]
  dsimp only
  rw [if_neg (by omega)]
/-- The loop's state. -/
def LI (w : World) (g m d : Nat) (live : Bool) (V : List Vr) (q : Pr (Tm × Txt)) (acc : Int) (w1 : World) : Prop := I64 acc ∧ Mod (fun k => k = g) w w1 ∧
  ((∃ a s1 V1, Lp g m d a s1 q ∧ RS w1 g s1 V1 0 ∧ d + s1.length ≤ 2000000 ∧ (if live = true then ev a V = .ok (acc, V1) ∧ V1.length ≤ V.length + szT a else V1 = V))
  ∨ (∃ k s1 V1, k ≠ 0 ∧ RS w1 g s1 V1 ((k : Nat) : Int) ∧ match q with
    | .bad k' => k' = k ∧ V1 = V
    | .ok p => live = true ∧ ev p.1 V = .bad k))
section
variable {w w5 w6 : World} {g m d : Nat} {V V1 : List Vr} {q q1 : Pr (Tm × Txt)} {a : Tm} {o : Txt} {acc n acc' : Int} {L : Nat}
theorem LI.no (hm : Mod (fun k => k = g) w w5) (hq : match q1 with
    | .bad k => q = .bad k
    | .ok p => Lp g m d (.bin o a p.1) p.2 q ∧ p.2.length ≤ L) (h : RP w5 g false V q1 (.returned (.int .i64 n)) w6) (hd : d + L ≤ 2000000) (ha : I64 acc') : LI w g m d false V q acc' w6 ∧ rm g w6 < L + 2 := by
  obtain ⟨n', e, hi, hm2, h⟩ := h
  cases q1 with
  | bad k =>
    obtain ⟨hk, s', h⟩ := h
    subst hq
    exact ⟨⟨ha, mod_trans hm hm2, .inr ⟨k, s', V, hk, h, rfl, rfl⟩⟩, by rw [rm_bad hk h]; omega⟩
  | ok p =>
    dsimp only at h hq
    rw [if_neg (by decide)] at h
    refine ⟨⟨ha, mod_trans hm hm2, .inl ⟨_, _, V, hq.1, h, by omega, by rw [if_neg (by decide)]⟩⟩, by rw [rm_ok h]; omega⟩
/-- It counts, but its right side does not. -/
theorem LI.half {b : Tm} {r : Txt} (hm : Mod (fun k => k = g) w w5) (h : RP w5 g false V1 (.ok (b, r)) (.returned (.int .i64 n)) w6) (hq : Lp g m d (.bin o a b) r q) (hr : r.length ≤ L) (hd : d + L ≤ 2000000) (ha : I64 acc')
    (hv : V1.length ≤ V.length + szT a) (hev : ev (.bin o a b) V = .ok (acc', V1)) : LI w g m d true V q acc' w6 ∧ rm g w6 < L + 2 := by
  obtain ⟨n', e, hi, hm2, h⟩ := h
  dsimp only at h
  rw [if_neg (by decide)] at h
  exact ⟨⟨ha, mod_trans hm hm2, .inl ⟨_, _, V1, hq, h, by omega, by rw [if_pos rfl]; exact ⟨hev, by simp only [szT]; omega⟩⟩⟩, by rw [rm_ok h]; omega⟩
/-- It counts, and so does its right side. -/
theorem LI.full {b : Tm} {r : Txt} (hm : Mod (fun k => k = g) w w5) (h : RP w5 g true V1 (.ok (b, r)) (.returned (.int .i64 n)) w6) (hq : Lp g m d (.bin o a b) r q) (hc : Cnd true V q) (hr : r.length ≤ L) (hd : d + L ≤ 2000000) (ha : I64 acc')
    (hv : V1.length ≤ V.length + szT a) (hev : ∀ z, ev b V1 = .ok z → z.1 = n → ev (.bin o a b) V = .ok (acc', z.2)) (heb : ∀ k, ev b V1 = .bad k → ev (.bin o a b) V = .bad k) : LI w g m d true V q acc' w6 ∧ rm g w6 < L + 2 := by
  obtain ⟨n', e, hi, hm2, h⟩ := h
  injection e with e
  injection e with _ e
  subst e
  dsimp only at h
  rw [if_pos rfl] at h
  cases hb : ev b V1 with
  | ok z =>
    rw [hb] at h
    obtain ⟨h1, h2, h3⟩ := h
    exact ⟨⟨ha, mod_trans hm hm2, .inl ⟨_, _, z.2, hq, h2, by omega, by rw [if_pos rfl]; exact ⟨hev z hb h1.symm, by simp only [szT]; omega⟩⟩⟩, by rw [rm_ok h2]; omega⟩
  | bad k =>
    rw [hb] at h
    obtain ⟨hk, s', V', h⟩ := h
    obtain ⟨t, r', rfl, _⟩ := hc rfl
    exact ⟨⟨ha, mod_trans hm hm2, .inr ⟨k, s', V', hk, h, rfl, (hq.left t r' rfl).2 V k (heb k hb)⟩⟩, by rw [rm_bad hk h]; omega⟩
end
theorem norm_bin {o : Txt} (h : o ∈ binOps) : norm o = o := by
  have : ∀ o ∈ binOps, norm o = o := by decide
  exact this o h
theorem reck_bad {op : Txt} {a b : Int} {k : Nat} (h : reck op a b = .bad k) : k ≠ 0 := by
  unfold reck at h
  split at h
  · injection h with h; omega
  · cases h
set_option maxHeartbeats 4000000 in
theorem bin_step {g m d : Nat} {s : Txt} {q q0 : Pr (Tm × Txt)} (_hm11 : m ≤ 11) (hq : match q0 with
    | .bad k => q = .bad k
    | .ok p => Lp g m d p.1 p.2 q ∧ p.2.length ≤ s.length) (h0 : UnSp g d s q0) : BiSp g m d s q := by
  intro w V live h hc hd
  have hc0 : Cnd live V q0 := by
    cases q0 with
    | bad k => rw [hq] at hc; exact hc
    | ok p =>
      intro hl
      obtain ⟨t, r, h1, h2⟩ := hc hl
      have := (hq.1.left t r h1).1
      exact ⟨_, _, rfl, by omega⟩
  refine ref13_state_binary_calls _ _ _ _ _ _ ?_
  refine (h0 w V live h hc0 hd).mono ?_
  rintro _ w1 ⟨n, rfl, hi, hm1, h1⟩
  refine .inl ⟨_, rfl, LI w g m d live V q, fun _ w2 => rm g w2, ⟨hi, hm1, ?_⟩, ?_⟩
  · cases q0 with
    | bad k =>
      obtain ⟨hk, s', h1⟩ := h1
      subst hq
      exact .inr ⟨k, s', V, hk, h1, rfl, rfl⟩
    | ok p =>
      dsimp only at h1 hq
      by_cases hl : live = true
      · rw [if_pos hl] at h1
        cases hev : ev p.1 V with
        | ok z =>
          rw [hev] at h1
          refine .inl ⟨_, _, z.2, hq.1, h1.2.1, by omega, ?_⟩
          rw [if_pos hl, hev, h1.1]
          exact ⟨rfl, h1.2.2⟩
        | bad k =>
          rw [hev] at h1
          obtain ⟨hk, s', V', h1⟩ := h1
          obtain ⟨t, r, rfl, _⟩ := hc hl
          exact .inr ⟨k, s', V', hk, h1, hl, (hq.1.left t r rfl).2 V k hev⟩
      · rw [if_neg hl] at h1
        exact .inl ⟨_, _, V, hq.1, h1, by omega, by rw [if_neg hl]⟩
  rintro acc _ w2 ⟨hia, hm2, hst⟩
  rcases hst with ⟨a, s1, V1, hlp, h2, hd2, hlive⟩ | ⟨k, s1, V1, hk, h2, hst⟩
  rotate_left
  · refine ⟨_, by rw [add_row]; exact h2.err, bsel_of (fun hx => absurd (of_decide_eq_true hx) (by omega)) (fun _ => ⟨_, rfl, by decide, hm2, ?_⟩)⟩
    cases q with
    | bad k' =>
      obtain ⟨rfl, rfl⟩ := hst
      exact ⟨hk, _, h2⟩
    | ok p =>
      obtain ⟨rfl, hev⟩ := hst
      dsimp only
      rw [if_pos rfl, hev]
      exact ⟨hk, _, _, h2⟩
  refine ⟨_, by rw [add_row]; exact h2.err, bsel_of (fun _ => ?_) (fun hx => absurd hx (by decide))⟩
  refine (xop h2).mono ?_
  rintro _ w3 ⟨rfl, h3⟩
  refine .inl ⟨_, rfl, (level_spec (opAt s1)).mono ?_⟩
  rintro _ w4 ⟨rfl, rfl⟩
  refine .inl ⟨_, rfl, ?_⟩
  have hlv : lvl (opAt s1) ≤ 10 := by
    by_cases h : lvl (opAt s1) = 0
    · omega
    · exact (of_lvl h).1
  rcases hlp.next with ⟨hend, rfl⟩ | ⟨hgo, q1, hb1, hq1⟩
  · have fin : RP w g live V (.ok (a, trim s1)) (.returned (.int .i64 acc)) w4 := by
      refine ⟨_, rfl, hia, mod_trans hm2 h3.2, ?_⟩
      dsimp only
      by_cases hl : live = true
      · rw [if_pos hl] at hlive ⊢
        rw [hlive.1]
        exact ⟨rfl, h3.1, hlive.2⟩
      · rw [if_neg hl] at hlive ⊢
        rw [← hlive]
        exact h3.1
    refine bsel_of (fun _ => fin) (fun hx => bsel_of (fun _ => fin) (fun hy => ?_))
    have hx := of_decide_eq_false hx
    have hy := of_decide_eq_false hy
    omega
  refine bsel_of (fun hx => ?_) (fun _ => bsel_of (fun hy => ?_) (fun _ => ?_))
  · have hx := of_decide_eq_true hx
    omega
  · have hy := of_decide_eq_true hy
    omega
  have hl0 : lvl (opAt s1) ≠ 0 := by omega
  have hone : opAt s1 ≠ [] := by
    intro e
    rw [e] at hl0
    exact hl0 (by decide)
  have hal := aft_len hone
  have e1 : IntKind.i64.wrap ((lvl (opAt s1) : Int) + 1) = ((lvl (opAt s1) + 1 : Nat) : Int) := by rw [wrap_i64 (by omega) (by omega)]; omega
  rw [e1]
  refine (xtake_yes h3.1 hone (opAt_trim s1)).mono ?_
  rintro _ w5 ⟨rfl, h5⟩
  rw [aft_trim] at h5
  have hm5 := mod_trans hm2 (h3.trans h5).2
  have hrm : rm g w2 = s1.length + 1 := rm_ok h2
  have hbin := lv_bin (of_lvl hl0).2
  generalize opAt s1 = o at *
  generalize aft s1 = s2 at *
  refine .inl ⟨_, rfl, ?_⟩
  dsimp only
  rw [hrm]
  have lt : ∀ {w6 : World}, rm g w6 < s2.length + 2 → rm g w6 < s1.length + 1 := by intro w6 h; omega
  -- where it does not count
  have non : live = false → ∀ {w6 : World} {n acc' : Int}, RP w5 g false V1 q1 (.returned (.int .i64 n)) w6 → I64 acc' → LI w g m d live V q acc' w6 ∧ rm g w6 < s1.length + 1 := by
    intro hl w6 n acc' h6 hi6
    subst hl
    rw [if_neg (by decide)] at hlive
    subst hlive
    have := LI.no (acc' := acc') (L := s2.length) hm5 hq1 h6 (by omega) hi6
    exact ⟨this.1, lt this.2⟩
  have callNo : Calls Tryz.prog fn_ref13_state_binary #[.pointer (some ⟨g, 0, none⟩), .int .i64 ((lvl o + 1 : Nat) : Int), .bool false, .int .i64 (d : Int)] w5 (RP w5 g false V1 q1) := hb1 w5 V1 false h5.1 (Cnd.no _ _) (by omega)
  have tr : ∀ {b : Bool} {w6 : World} {P : Int → World → Prop} {Q : List PanicEntry → World → Prop}, P (truthI b) w6 → Calls Tryz.prog fn_ref13_truth #[.bool b] w6 (fun ed w7 => (∃ r : Int, ed = .returned (.int .i64 r) ∧ P r w7) ∨ ∃ ch, ed = .panicked ch ∧ Q ch w7) := by
    intro b w6 P Q h
    refine (rtruth_spec b).mono ?_
    rintro _ w7 ⟨rfl, rfl⟩
    exact .inl ⟨_, rfl, h⟩
  -- where it counts
  have yes : live = true → ∃ b r, q1 = .ok (b, r) ∧ Lp g m d (.bin o a b) r q ∧ r.length ≤ s2.length ∧ Cnd true V q ∧ ev a V = .ok (acc, V1) ∧ V1.length ≤ V.length + szT a ∧ Cnd true V1 q1 := by
    intro hl
    rw [if_pos hl] at hlive
    rw [hl] at hc
    cases q1 with
    | bad k =>
      rw [hq1] at hc
      have := hc.bad
      cases this
    | ok p =>
      obtain ⟨t, r, h1, h2⟩ := hc rfl
      have hs := (hq1.1.left t r h1).1
      simp only [szT] at hs
      exact ⟨_, _, rfl, hq1.1, hq1.2, hc, hlive.1, hlive.2, fun _ => ⟨_, _, rfl, by omega⟩⟩
  refine bsel_of (fun ho => ?_) (fun ho => ?_)
  · have ho := of_decide_eq_true ho
    refine bsel_of (fun hl => ?_) (fun hl => ?_)
    · obtain ⟨b, r, rfl, hlp2, hr, hc, hev, hv, hc1⟩ := yes hl
      subst hl
      by_cases hz : acc = 0
      · rw [decide_eq_true hz]
        refine (hb1 w5 V1 true h5.1 hc1 (by omega)).mono ?_
        intro e w6 h6
        obtain ⟨n6, rfl, hi6⟩ := h6.ret
        refine .inl ⟨_, rfl, bsel_of (fun hx => absurd hx (by decide)) (fun _ => tr ?_)⟩
        have := LI.full (acc' := truthI (!decide (n6 = 0))) hm5 h6 hlp2 hc hr (by omega) (truth_in _) hv
          (by intro z h1 h2; simp only [ev]; rw [hev]; simp only [andP]; rw [if_pos ho, if_neg (fun e => e hz), h1, ← h2])
          (by intro k h1; simp only [ev]; rw [hev]; simp only [andP]; rw [if_pos ho, if_neg (fun e => e hz), h1])
        exact ⟨this.1, lt this.2⟩
      · rw [decide_eq_false hz]
        refine callNo.mono ?_
        intro e w6 h6
        obtain ⟨n6, rfl, hi6⟩ := h6.ret
        refine .inl ⟨_, rfl, bsel_of (fun _ => tr ?_) (fun hx => absurd hx (by decide))⟩
        have := LI.half (acc' := truthI true) hm5 h6 hlp2 hr (by omega) (truth_in _) hv
          (by simp only [ev]; rw [hev]; simp only [andP]; rw [if_pos ho, if_pos hz]; rfl)
        exact ⟨this.1, lt this.2⟩
    · refine callNo.mono ?_
      intro e w6 h6
      obtain ⟨n6, rfl, hi6⟩ := h6.ret
      exact .inl ⟨_, rfl, bsel_of (fun _ => tr (non hl h6 (truth_in _))) (fun _ => tr (non hl h6 (truth_in _)))⟩
  have ho := of_decide_eq_false ho
  refine bsel_of (fun ho2 => ?_) (fun ho2 => ?_)
  · have ho2 := of_decide_eq_true ho2
    refine bsel_of (fun hl => ?_) (fun hl => ?_)
    · obtain ⟨b, r, rfl, hlp2, hr, hc, hev, hv, hc1⟩ := yes hl
      subst hl
      by_cases hz : acc = 0
      · rw [decide_eq_true hz]
        refine callNo.mono ?_
        intro e w6 h6
        obtain ⟨n6, rfl, hi6⟩ := h6.ret
        refine .inl ⟨_, rfl, bsel_of (fun hx => absurd hx (by decide)) (fun _ => tr ?_)⟩
        have := LI.half (acc' := truthI false) hm5 h6 hlp2 hr (by omega) (truth_in _) hv
          (by simp only [ev]; rw [hev]; simp only [andP]; rw [if_neg ho, if_pos ho2, if_pos hz]; rfl)
        exact ⟨this.1, lt this.2⟩
      · rw [decide_eq_false hz]
        refine (hb1 w5 V1 true h5.1 hc1 (by omega)).mono ?_
        intro e w6 h6
        obtain ⟨n6, rfl, hi6⟩ := h6.ret
        refine .inl ⟨_, rfl, bsel_of (fun _ => tr ?_) (fun hx => absurd hx (by decide))⟩
        have := LI.full (acc' := truthI (!decide (n6 = 0))) hm5 h6 hlp2 hc hr (by omega) (truth_in _) hv
          (by intro z h1 h2; simp only [ev]; rw [hev]; simp only [andP]; rw [if_neg ho, if_pos ho2, if_neg hz, h1, ← h2])
          (by intro k h1; simp only [ev]; rw [hev]; simp only [andP]; rw [if_neg ho, if_pos ho2, if_neg hz, h1])
        exact ⟨this.1, lt this.2⟩
    · refine callNo.mono ?_
      intro e w6 h6
      obtain ⟨n6, rfl, hi6⟩ := h6.ret
      exact .inl ⟨_, rfl, bsel_of (fun _ => tr (non hl h6 (truth_in _))) (fun _ => tr (non hl h6 (truth_in _)))⟩
  have ho2 := of_decide_eq_false ho2
  have hop : o ∈ binOps := (hbin.resolve_left ho).resolve_left ho2
  by_cases hl : live = true
  · obtain ⟨b, r, rfl, hlp2, hr, hc, hev, hv, hc1⟩ := yes hl
    subst hl
    refine (hb1 w5 V1 true h5.1 hc1 (by omega)).mono ?_
    rintro _ w6 ⟨n6, rfl, hi6, hm6, h6⟩
    dsimp only at h6
    rw [if_pos rfl] at h6
    refine .inl ⟨_, rfl, bsel_of (fun _ => ?_) (fun hx => absurd hx (by decide))⟩
    have hm56 := mod_trans hm5 hm6
    cases hb : ev b V1 with
    | bad k =>
      rw [hb] at h6
      obtain ⟨hk, s', V', h6⟩ := h6
      refine ⟨_, by rw [add_row]; exact h6.err, bsel_of (fun hx => absurd (of_decide_eq_true hx) (by omega)) (fun _ => ⟨⟨hia, hm56, .inr ⟨k, s', V', hk, h6, ?_⟩⟩, by rw [rm_bad hk h6]; omega⟩)⟩
      obtain ⟨t, r', rfl, _⟩ := hc rfl
      refine ⟨rfl, (hlp2.left t r' rfl).2 V k ?_⟩
      simp only [ev]
      rw [hev]
      simp only [andP]
      rw [if_neg ho, if_neg ho2, hb]
    | ok z =>
      rw [hb] at h6
      obtain ⟨rfl, h6, hvz⟩ := h6
      refine ⟨_, by rw [add_row]; exact h6.err, bsel_of (fun _ => ?_) (fun hx => absurd hx (by decide))⟩
      refine (rtwo_spec (.inl hop) acc z.1).mono ?_
      rintro ed w7 ⟨ha, rfl⟩
      rw [norm_bin hop] at ha
      have hevb : ev (.bin o a b) V = andP (reck o acc z.1) fun x => .ok (x, z.2) := by
        simp only [ev]
        rw [hev]
        simp only [andP]
        rw [if_neg ho, if_neg ho2, hb]
      cases hrk : reck o acc z.1 with
      | ok x =>
        rw [hrk] at ha hevb
        refine .inl ⟨_, _, ha, (xfail2 h6 0).mono ?_⟩
        rintro _ w8 ⟨rfl, h8⟩
        rw [if_pos rfl] at h8
        refine .inl ⟨rfl, ⟨reck_in hia hi6 hrk, mod_trans hm56 h8.2, .inl ⟨_, _, z.2, hlp2, h8.1, by omega, ?_⟩⟩, by rw [rm_ok h8.1]; omega⟩
        rw [if_pos rfl]
        exact ⟨hevb, by simp only [szT]; omega⟩
      | bad k =>
        rw [hrk] at ha hevb
        have hk := reck_bad hrk
        refine .inl ⟨_, _, ha, (xfail2 h6 k).mono ?_⟩
        rintro _ w8 ⟨rfl, h8⟩
        rw [if_pos rfl] at h8
        obtain ⟨t, r', rfl, _⟩ := hc rfl
        exact .inl ⟨rfl, ⟨by decide, mod_trans hm56 h8.2, .inr ⟨k, _, _, hk, h8.1, rfl, (hlp2.left t r' rfl).2 V k hevb⟩⟩, by rw [rm_bad hk h8.1]; omega⟩
  · have hl : live = false := by simpa using hl
    have e2 : Value.bool live = .bool false := by rw [hl]
    rw [e2]
    refine callNo.mono ?_
    intro e w6 h6
    obtain ⟨n6, rfl, hi6⟩ := h6.ret
    refine .inl ⟨_, rfl, bsel_of (fun hx => absurd hx (by rw [hl]; decide)) (fun _ => ?_)⟩
    exact non hl h6 hia
end Go.Proofs.YtgincpkggnndeaaGreatDoor
