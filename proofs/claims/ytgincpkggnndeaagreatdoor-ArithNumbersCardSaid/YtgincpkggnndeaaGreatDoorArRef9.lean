/- Expressions of numbers: the reference's assignments; all of its reading; and its answer. Conditions: as each theorem names them. -/
import Derived.Test.YtgincpkggnndeaaGreatDoorArRef8
namespace Go.Proofs.YtgincpkggnndeaaGreatDoor
open Go.RowKit Vc

theorem ex_long {g d : Nat} {s : Txt} (h30 : 30 < d) : ExSp g d s (.bad 2) := by
  intro w V live h hc hd
  refine ref13_state_expr_calls _ _ _ _ _ ?_
  refine ⟨fun w2 => RTo w g s V (if 30 < d then 2 else 0) w2, depthJ h fun w2 h2 => h2, ?_⟩
  rintro _ w2 h2
  rw [if_pos h30] at h2
  exact ⟨_, by rw [add_row]; exact h2.1.err, bsel_of (fun _ => ⟨_, rfl, by decide, h2.2, by decide, _, h2.1⟩) (fun hx => absurd hx (by decide))⟩
theorem ex_cond {g d : Nat} {s : Txt} {q : Pr (Tm × Txt)} (h30 : ¬ 30 < d) (ha : asg s = none) (h1 : CoSp g d (trim s) q) : ExSp g d s q := by
  intro w V live h hc hd
  have htl := trim_len s
  refine ref13_state_expr_calls _ _ _ _ _ ?_
  refine ⟨fun w2 => RTo w g s V (if 30 < d then 2 else 0) w2, depthJ h fun w2 h2 => h2, ?_⟩
  rintro _ w2 h2
  rw [if_neg h30] at h2
  refine ⟨_, by rw [add_row]; exact h2.1.err, bsel_of (fun hx => absurd hx (by decide)) (fun _ => ?_)⟩
  refine (xassigns h2.1 (by omega)).mono ?_
  intro e w3 h3
  rw [ha] at h3
  obtain ⟨rfl, h3⟩ := h3
  refine .inl ⟨_, _, rfl, bsel_of (fun _ => ?_) (fun hx => absurd rfl (of_decide_eq_false hx))⟩
  refine (h1 w3 V live h3.1 hc (by omega)).mono ?_
  intro e w4 h4
  obtain ⟨n, rfl, _⟩ := h4.ret
  exact .inl ⟨_, rfl, h4.from (h2.trans h3).2⟩
theorem getW_bad {x : Txt} {V : List Vr} {k : Nat} (h : getW x V = .bad k) : k ≠ 0 := by
  unfold getW at h
  split at h
  · cases h
  · injection h with h; omega
set_option maxHeartbeats 4000000 in
theorem ex_set {g d : Nat} {s x o r : Txt} {q1 : Pr (Tm × Txt)} (h30 : ¬ 30 < d) (ha : asg s = some (x, o, r)) (hx0 : x ≠ []) (h1 : ExSp g (d + 1) r q1) : ExSp g d s (match q1 with
    | .bad k => .bad k
    | .ok p => .ok (.set x o.dropLast p.1, p.2)) := by
  intro w V live h hc hd
  have hal := asg_len ha
  have hasz := asg_sz ha
  have hok := asg_ok ha
  have hc1 : Cnd live V q1 := by
    cases q1 with
    | bad k => exact hc
    | ok p => exact hc.sub (by simp only [szT]; omega)
  have e1 : IntKind.i64.wrap ((d : Int) + 1) = ((d + 1 : Nat) : Int) := by rw [wrap_i64 (by omega) (by omega)]; omega
  refine ref13_state_expr_calls _ _ _ _ _ ?_
  refine ⟨fun w2 => RTo w g s V (if 30 < d then 2 else 0) w2, depthJ h fun w2 h2 => h2, ?_⟩
  rintro _ w2 h2
  rw [if_neg h30] at h2
  refine ⟨_, by rw [add_row]; exact h2.1.err, bsel_of (fun hx => absurd hx (by decide)) (fun _ => ?_)⟩
  refine (xassigns h2.1 (by omega)).mono ?_
  intro e w3 h3
  rw [ha] at h3
  obtain ⟨rfl, h3⟩ := h3
  refine .inl ⟨_, _, rfl, bsel_of (fun hx => absurd (of_decide_eq_true hx) hx0) (fun _ => ?_)⟩
  have hm3 := (h2.trans h3).2
  rw [e1]
  refine (h1 w3 V live h3.1 hc1 (by omega)).mono ?_
  rintro _ w5 ⟨n, rfl, hi, hm5, h5⟩
  have hm35 := mod_trans hm3 hm5
  refine .inl ⟨_, rfl, ?_⟩
  cases live with
  | false =>
    refine bsel_of (fun _ => ⟨_, rfl, hi, hm35, ?_⟩) (fun hx => absurd hx (by decide))
    cases q1 with
    | bad k => exact h5
    | ok p =>
      dsimp only at h5 ⊢
      rw [if_neg (by decide)] at h5 ⊢
      exact h5
  | true =>
    refine bsel_of (fun hx => absurd hx (by decide)) (fun _ => ?_)
    obtain ⟨tt, rr, heq, hlen⟩ := hc rfl
    cases q1 with
    | bad k => cases heq
    | ok p =>
    obtain ⟨t, r'⟩ := p
    injection heq with heq
    injection heq with heq _
    subst heq
    simp only [szT] at hlen
    dsimp only at h5 ⊢
    rw [if_pos rfl] at h5
    cases hev : ev t V with
    | bad k =>
      rw [hev] at h5
      obtain ⟨hk, s', V', h5⟩ := h5
      refine ⟨_, by rw [add_row]; exact h5.err, bsel_of (fun _ => Er.rp ⟨k, s', V', hk, h5, rfl, ?_⟩ hm35 hi) (fun hx => absurd (nd hx) (by omega))⟩
      simp only [ev]
      rw [hev]
      rfl
    | ok p1 =>
    rw [hev] at h5
    obtain ⟨hn, h5, hv5⟩ := h5
    subst hn
    refine ⟨_, by rw [add_row]; exact h5.err, bsel_of (fun hx => absurd hx (by decide)) (fun _ => ?_)⟩
    have hevs : ev (.set x o.dropLast t) V = andP (if o.dropLast = [] then .ok p1.1 else andP (getW x p1.2) fun m => reck o.dropLast m p1.1) fun z => setW p1.2 x z := by
      simp only [ev]
      rw [hev]
      rfl
    generalize hzr : (if o.dropLast = [] then Pr.ok p1.1 else andP (getW x p1.2) fun m => reck o.dropLast m p1.1) = zr at hevs
    refine ⟨fun z w9 => I64 z ∧ Mod (fun k => k = g) w w9 ∧ ((RS w9 g r' p1.2 0 ∧ zr = .ok z) ∨ (∃ k : Nat, k ≠ 0 ∧ RS w9 g r' p1.2 (k : Int) ∧ zr = .bad k)), bsel_of (fun ho => ?_) (fun ho => ?_), ?_⟩
    · have ho : o ≠ [61] := by simpa using ho
      have hod : o.dropLast ≠ [] := by
        have : ∀ o ∈ asgOps, o ≠ [61] → o.dropLast ≠ [] := by decide
        exact this o hok.2.2 ho
      rw [if_neg hod] at hzr
      refine (xget h5 (by omega) x).mono ?_
      rintro _ w6 ⟨⟨m, rfl, him, h6⟩, hm6⟩
      refine .inl ⟨_, rfl, ?_⟩
      have hm36 := mod_trans hm35 hm6
      cases hgw : getW x p1.2 with
      | bad k =>
        rw [hgw] at h6 hzr
        refine ⟨_, by rw [add_row]; exact h6.2.err, bsel_of (fun _ => Er.rp ⟨k, _, _, h6.1, h6.2, rfl, ?_⟩ hm36 (by decide)) (fun hx => absurd (nd hx) (by have := h6.1; omega))⟩
        rw [hevs, ← hzr]
        rfl
      | ok m' =>
        rw [hgw] at h6 hzr
        obtain ⟨rfl, h6⟩ := h6
        have hzr : reck o.dropLast m p1.1 = zr := hzr
        refine ⟨_, by rw [add_row]; exact h6.err, bsel_of (fun hx => absurd hx (by decide)) (fun _ => (rtwo_spec (.inr ⟨hok.2.2, ho⟩) m p1.1).mono ?_)⟩
        rintro ed w7 ⟨ha7, rfl⟩
        have hno : norm o = o.dropLast := by unfold norm; rw [if_pos hok.2.2]
        rw [hno] at ha7
        cases hrk : reck o.dropLast m p1.1 with
        | ok z =>
          rw [hrk] at ha7 hzr
          refine .inl ⟨_, _, ha7, (xfail2 h6 0).mono ?_⟩
          rintro _ w8 ⟨rfl, h8⟩
          rw [if_pos rfl] at h8
          exact .inl ⟨rfl, reck_in him hi hrk, mod_trans hm36 h8.2, .inl ⟨h8.1, hzr.symm⟩⟩
        | bad k =>
          rw [hrk] at ha7 hzr
          refine .inl ⟨_, _, ha7, (xfail2 h6 k).mono ?_⟩
          rintro _ w8 ⟨rfl, h8⟩
          rw [if_pos rfl] at h8
          exact .inl ⟨rfl, by decide, mod_trans hm36 h8.2, .inr ⟨k, reck_bad hrk, h8.1, hzr.symm⟩⟩
    · have ho : o = [61] := by simpa using ho
      subst ho
      rw [if_pos (by decide)] at hzr
      exact ⟨hi, hm35, .inl ⟨h5, hzr.symm⟩⟩
    rintro z _ w9 ⟨hiz, hm9, h9⟩
    rcases h9 with ⟨h9, rfl⟩ | ⟨k, hk, h9, rfl⟩
    rotate_left
    · refine ⟨_, by rw [add_row]; exact h9.err, bsel_of (fun _ => Er.rp ⟨k, _, _, hk, h9, rfl, ?_⟩ hm9 (by decide)) (fun hx => absurd (nd hx) (by omega))⟩
      rw [hevs]
      rfl
    have hevs : ev (.set x o.dropLast t) V = setW p1.2 x z := hevs
    refine ⟨_, by rw [add_row]; exact h9.err, bsel_of (fun hx => absurd hx (by decide)) (fun _ => ?_)⟩
    obtain ⟨pp, C, r9, v9, _⟩ := h9.turn
    refine ⟨fun wq => Still w9 wq, (Still.refl _).toDrew, pp, _, C, fun wq hq => by rw [add_row]; exact (r9.still hq).lget rfl, (rdigits_spec z hiz).mono ?_⟩
    rintro _ w10 ⟨rfl, hs10⟩
    have hs10 := (Still.refl w9).toDrew.trans hs10
    refine .inl ⟨_, rfl, hs10, (rset_spec (v9.still hs10) (by omega) x (Lib.itoa z) (by omega)).mono ?_⟩
    rintro _ w11 ⟨qq, D, rfl, v11, hs11⟩
    have hs := hs10.trans hs11
    have h11 := h9.still hs
    have hm11 := mod_still hm9 hs
    have her := setR_err p1.2 x (Lib.itoa z)
    have hlenS := setR_len p1.2 x (Lib.itoa z)
    have hmem : ∀ v ∈ (setR p1.2 x (Lib.itoa z)).1, v.value.length ≤ 140737488355328 := by
      intro v hv
      unfold setR at hv
      split at hv
      · split at hv
        · cases hv
        · rcases ins_mem hv with rfl | hv
          · have := Lib.itoa_length_le z hiz.1 (by have := hiz.2; omega)
            show (Lib.itoa z).length ≤ _
            omega
          · exact h9.txt v hv
      · cases hv
    have hsw : setW p1.2 x z = if (setR p1.2 x (Lib.itoa z)).2 = 0 then .ok (z, (setR p1.2 x (Lib.itoa z)).1) else .bad (setR p1.2 x (Lib.itoa z)).2.toNat := rfl
    rw [hsw] at hevs
    generalize setR p1.2 x (Lib.itoa z) = rr at *
    obtain ⟨V', code⟩ := rr
    dsimp only at *
    refine .inl ⟨_, _, _, _, rfl, (xfail2 h11 code).mono ?_⟩
    rintro _ w12 ⟨rfl, h12⟩
    rw [if_pos rfl] at h12
    obtain ⟨p11, C11, r11, _, _⟩ := h11.turn
    have v12 := v11.far r11 h12.2
    obtain ⟨p12, C12, r12, _, _⟩ := h12.1.turn
    refine .inl ⟨rfl, ?_⟩
    show stCells ((Addr.mk g 0 none).add 1) _ _ _ _
    rw [add_row]
    refine stK r12 (by simp) (by simp [Value.oneCell']) fun w13 r13 hm13 _ => ?_
    have h13 : RS w13 g r' V' code := ⟨⟨qq, D, r13, v12.far r12 hm13⟩, hmem⟩
    refine ⟨_, rfl, hiz, mod_trans hm11 (mod_trans h12.2 hm13), ?_⟩
    dsimp only
    rw [if_pos rfl, hevs]
    by_cases h0 : code = 0
    · subst h0
      rw [if_pos rfl]
      exact ⟨rfl, h13, by simp only [szT]; omega⟩
    · rw [if_neg h0]
      refine ⟨by omega, r', V', ?_⟩
      have : ((code.toNat : Nat) : Int) = code := by omega
      rw [this]
      exact h13
/-- What each way of reading comes to. -/
def Sp (g : Nat) : Cm → Txt → Pr (Tm × Txt) → Prop
  | .expr d, s, q => ExSp g d s q
  | .cond d, s, q => CoSp g d s q
  | .bin m d, s, q => m ≤ 11 → BiSp g m d s q
  | .bloop m d a, s, q => Lp g m d a s q
  | .una d, s, q => UnSp g d s q
theorem asg_name {s x o r : Txt} (h : asg s = some (x, o, r)) : x ≠ [] := by
  intro e
  have := (asg_ok h).2.1
  rw [e] at this
  exact absurd this (by decide)
theorem ite10 {p : Prop} [Decidable p] {a b : Nat} (ha : a ≤ 10) (hb : b ≤ 10) : (if p then a else b) ≤ 10 := by split <;> assumption
theorem lvl_le (o : Txt) : lvl o ≤ 10 := by
  unfold lvl
  refine ite10 (by decide) (ite10 (by decide) (ite10 (by decide) (ite10 (by decide) (ite10 (by decide) (ite10 (by decide) (ite10 (by decide) (ite10 (by decide) (ite10 (by decide) (ite10 (by decide) (ite10 (by decide) (ite10 (by decide) (ite10 (by decide) (ite10 (by decide) (ite10 (by decide) (ite10 (by decide) (ite10 (by decide) (ite10 (by decide) (by decide))))))))))))))))))
theorem Cl_spec (g : Nat) {m : Cm} {s : Txt} {q : Pr (Tm × Txt)} (h : Cl m s q) : Sp g m s q := by
  induction h with
  | exLong h => exact ex_long h
  | exSet h ha h1 ih => exact ex_set h ha (asg_name ha) ih
  | exSetBad h ha h1 ih => exact ex_set h ha (asg_name ha) ih
  | exCond h ha h1 ih => exact ex_cond h ha ih
  | coBad h1 ih => exact cond_no True.intro (ih (by decide))
  | coNo h1 ho ih => exact cond_no ho (ih (by decide))
  | coABad h1 ho h2 ih1 ih2 => exact cond_more (ih1 (by decide)) (Cl_len h1 _ _ rfl) ho ih2 rfl
  | coColon h1 ho h2 ho2 ih1 ih2 =>
    have hl := Cl_len h2 _ _ rfl
    have ha := aft_len (by rw [ho]; decide : opAt _ ≠ [])
    refine cond_more (ih1 (by decide)) (Cl_len h1 _ _ rfl) ho ih2 ⟨by dsimp only; omega, ?_⟩
    rw [if_neg ho2]
  | coBBad h1 ho h2 ho2 h3 ih1 ih2 ih3 =>
    have hl := Cl_len h2 _ _ rfl
    have ha := aft_len (by rw [ho]; decide : opAt _ ≠ [])
    refine cond_more (ih1 (by decide)) (Cl_len h1 _ _ rfl) ho ih2 ⟨by dsimp only; omega, ?_⟩
    rw [if_pos ho2]
    exact ⟨_, ih3, rfl⟩
  | coOk h1 ho h2 ho2 h3 ih1 ih2 ih3 =>
    have hl := Cl_len h2 _ _ rfl
    have ha := aft_len (by rw [ho]; decide : opAt _ ≠ [])
    refine cond_more (ih1 (by decide)) (Cl_len h1 _ _ rfl) ho ih2 ⟨by dsimp only; omega, ?_⟩
    rw [if_pos ho2]
    exact ⟨_, ih3, rfl⟩
  | binBad h1 ih => exact fun hm => bin_step hm rfl ih
  | @bin m d s r a q h1 h2 ih1 ih2 => exact fun hm => bin_step (q0 := .ok (a, r)) hm ⟨ih2, Cl_len h1 _ _ rfl⟩ ih1
  | blEnd h => exact .done h
  | @blBad m d s a k h h1 ih => exact .bad h (ih (by have := lvl_le (opAt s); omega))
  | @blStep m d s r a b q h h1 h2 ih1 ih2 => exact .step h (ih1 (by have := lvl_le (opAt s); omega)) (Cl_len h1 _ _ rfl) ih2
  | unLong h => exact una_long h
  | unOp h ho h1 ih => exact una_sgn h ho ih
  | unOpBad h ho h1 ih => exact una_sgn h ho ih
  | unParBad h ho h1 ih => exact una_rest h (by rw [ho]; decide) (prim_par (by rw [opAt_trim]; exact ho) (by rw [aft_trim]; exact ih) rfl)
  | unParNo h ho h1 ho2 ih => exact una_rest h (by rw [ho]; decide) (prim_par (by rw [opAt_trim]; exact ho) (by rw [aft_trim]; exact ih) (by dsimp only; rw [if_neg ho2]))
  | unPar h ho h1 ho2 ih => exact una_rest h (by rw [ho]; decide) (prim_par (by rw [opAt_trim]; exact ho) (by rw [aft_trim]; exact ih) (by dsimp only; rw [if_pos ho2]))
  | unPrim h ho ho2 => exact una_rest h ho (prim_one (by rw [opAt_trim]; exact ho2) (trim_trim _))
end Go.Proofs.YtgincpkggnndeaaGreatDoor
