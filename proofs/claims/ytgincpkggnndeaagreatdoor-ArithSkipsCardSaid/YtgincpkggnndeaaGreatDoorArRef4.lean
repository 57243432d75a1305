/- Expressions of numbers: the reference's state, with its variables. Conditions: as each theorem names them. -/
import Derived.Test.YtgincpkggnndeaaGreatDoorArRef3
namespace Go.Proofs.YtgincpkggnndeaaGreatDoor
open Go.RowKit Vc
variable {w : World}

/-- The reference's state: its text, its variables, its error. -/
structure RS (w : World) (g : Nat) (s : Txt) (V : List Vr) (e : Int) : Prop where
  row : ∃ p C, SRow w g s (.slice p V.length C) e ∧ VarAt w p V.length C V
  txt : ∀ v ∈ V, v.value.length ≤ 140737488355328
theorem RS.still {g : Nat} {s : Txt} {V : List Vr} {e : Int} {w' : World} (h : RS w g s V e) (hm : Still w w') : RS w' g s V e := by
  obtain ⟨⟨p, C, h1, h2⟩, h4⟩ := h
  exact ⟨⟨p, C, h1.still hm, h2.still hm⟩, h4⟩
theorem SRow.apart {g : Nat} {s : Txt} {p q : Option Addr} {n m C D : Nat} {e : Int} {V : List Vr} (h : SRow w g s (.slice q m D) e) (hv : VarAt w p n C V) : ∀ a : Addr, p = some a → 0 < n → a.block ≠ g := by
  intro a ha hpos hb
  obtain ⟨a', ha', hc⟩ := hv.2.2 hpos
  rw [ha] at ha'
  injection ha' with ha'
  subst ha'
  have hv0 : ∃ t u, (vcs V)[0]? = some (.string t) ∧ (vcs V)[1]? = some (.string u) := by
    have hl := hv.1
    cases V with
    | nil => simp at hl; omega
    | cons v l => exact ⟨_, _, rfl, rfl⟩
  obtain ⟨t, u, ht, hu⟩ := hv0
  have c0 := hc 0 _ ht
  have c1 := hc 1 _ hu
  obtain ⟨b, o, x⟩ := a
  have hb : b = g := hb
  subst hb
  obtain ⟨fz, hh, _⟩ := h
  have e0 : (Addr.mk b o x).add 0 = ⟨b, o, x⟩ := rfl
  have e1 : (Addr.mk b o x).add 1 = ⟨b, o + 1, none⟩ := rfl
  rw [e0] at c0
  rw [e1] at c1
  unfold World.cell? at c1
  dsimp only at c1
  rw [hh] at c1
  dsimp only at c1
  match o with
  | 0 => simp at c1
  | 1 => simp at c1
  | n + 2 => simp at c1
theorem VarAt.far {g : Nat} {w' : World} {s : Txt} {p q : Option Addr} {n m C D : Nat} {e : Int} {V : List Vr} (hv : VarAt w p n C V) (h : SRow w g s (.slice q m D) e) (hm : Mod (fun k => k = g) w w') : VarAt w' p n C V := by
  refine ⟨hv.1, hv.2.1, fun hpos => ?_⟩
  obtain ⟨a, ha, hc⟩ := hv.2.2 hpos
  have hne := h.apart hv a ha hpos
  refine ⟨a, ha, fun j u hu => ?_⟩
  have hcell := hc j u hu
  have hb : (a.add j).block = a.block := by unfold Addr.add; split <;> rfl
  exact (World.cell?_of_block (hm.block _ (World.block_lt_of_cell? _ _ hcell) (by rw [hb]; exact hne))).trans hcell
theorem RS.turn {g : Nat} {s : Txt} {V : List Vr} {e : Int} (h : RS w g s V e) : ∃ p C, SRow w g s (.slice p V.length C) e ∧ VarAt w p V.length C V ∧ ∀ w' s' e', SRow w' g s' (.slice p V.length C) e' → Mod (fun k => k = g) w w' → RS w' g s' V e' := by
  obtain ⟨⟨p, C, h1, h2⟩, h4⟩ := h
  exact ⟨p, C, h1, h2, fun w' s' e' h5 hm => ⟨⟨p, C, h5, h2.far h1 hm⟩, h4⟩⟩
theorem RS.text {g : Nat} {s : Txt} {V : List Vr} {e : Int} (h : RS w g s V e) : w.cell? ⟨g, 0, none⟩ = some (.string (S s)) := by
  obtain ⟨p, C, h1, _⟩ := h.turn
  exact h1.lget rfl
theorem RS.err {g : Nat} {s : Txt} {V : List Vr} {e : Int} (h : RS w g s V e) : w.cell? ⟨g, 2, none⟩ = some (.int .i64 e) := by
  obtain ⟨p, C, h1, _⟩ := h.turn
  exact h1.lget rfl
abbrev RTo (w : World) (g : Nat) (s : Txt) (V : List Vr) (e : Int) (w' : World) : Prop := RS w' g s V e ∧ Mod (fun k => k = g) w w'
theorem RTo.trans {w w1 w2 : World} {g : Nat} {s s' : Txt} {V V' : List Vr} {e e' : Int} (h : RTo w g s V e w1) (k : RTo w1 g s' V' e' w2) : RTo w g s' V' e' w2 := ⟨k.1, mod_trans h.2 k.2⟩
theorem xspace {g : Nat} {s : Txt} {V : List Vr} {e : Int} (h : RS w g s V e) : Calls Tryz.prog fn_ref13_state_space #[.pointer (some ⟨g, 0, none⟩)] w (fun r w' => r = .returned (.tuple #[]) ∧ RTo w g (trim s) V e w') := by
  obtain ⟨p, C, h1, _, hk⟩ := h.turn
  refine (space_spec h1 rfl).mono ?_
  rintro _ w1 ⟨rfl, h2, hm⟩
  exact ⟨rfl, hk _ _ _ h2 hm, hm⟩
theorem xop {g : Nat} {s : Txt} {V : List Vr} {e : Int} (h : RS w g s V e) : Calls Tryz.prog fn_ref13_state_op #[.pointer (some ⟨g, 0, none⟩)] w (fun r w' => r = .returned (.string (S (opAt s))) ∧ RTo w g (trim s) V e w') := by
  obtain ⟨p, C, h1, _, hk⟩ := h.turn
  refine (rop_spec h1 rfl).mono ?_
  rintro _ w1 ⟨rfl, h2, hm⟩
  exact ⟨rfl, hk _ _ _ h2 hm, hm⟩
theorem xtake {g : Nat} {s : Txt} {V : List Vr} {e : Int} (h : RS w g s V e) (o : Txt) (ho : o ≠ []) : Calls Tryz.prog fn_ref13_state_take #[.pointer (some ⟨g, 0, none⟩), .string (S o)] w (fun r w' => r = .returned (.bool (decide (opAt s = o))) ∧ RTo w g (if opAt s = o then aft s else trim s) V e w') := by
  obtain ⟨p, C, h1, _, hk⟩ := h.turn
  refine (rtake_spec h1 rfl o ho).mono ?_
  rintro _ w1 ⟨rfl, h2, hm⟩
  exact ⟨rfl, hk _ _ _ h2 hm, hm⟩
theorem xfail {g : Nat} {s : Txt} {V : List Vr} {e : Int} (h : RS w g s V e) (k : Int) : Calls Tryz.prog fn_ref13_state_fail #[.pointer (some ⟨g, 0, none⟩), .int .i64 k] w (fun r w' => r = .returned (.tuple #[]) ∧ RTo w g s V (if e = 0 then k else e) w') := by
  obtain ⟨p, C, h1, _, hk⟩ := h.turn
  refine (fail_spec h1 k).mono ?_
  rintro _ w1 ⟨rfl, h2, hm⟩
  exact ⟨rfl, hk _ _ _ h2 hm, hm⟩
theorem xfail2 {g : Nat} {s : Txt} {V : List Vr} {e : Int} (h : RS w g s V e) (k : Int) : Calls Tryz.prog fn_ref13_state_fail2 #[.pointer (some ⟨g, 0, none⟩), .int .i64 k] w (fun r w' => r = .returned (.tuple #[]) ∧ RTo w g s V (if e = 0 then k else e) w') := by
  refine ref13_state_fail2_calls _ _ _ _ ?_
  refine bsel_of (fun hx => ?_) (fun hx => ?_)
  · refine (xfail h k).mono ?_
    rintro _ w1 ⟨rfl, h2⟩
    exact .inl ⟨rfl, rfl, h2⟩
  · have hk : k = 0 := nd hx
    subst hk
    refine ⟨rfl, ?_, Mod.refl _ _⟩
    by_cases h0 : e = 0
    · rw [if_pos h0]; rw [h0] at h; exact h
    · rw [if_neg h0]; exact h
theorem xget {g : Nat} {s : Txt} {V : List Vr} (h : RS w g s V 0) (hn : V.length < 900000) (x : Txt) : Calls Tryz.prog fn_ref13_state_get #[.pointer (some ⟨g, 0, none⟩), .string (S x), .bool true] w (fun r w' => (∃ n, r = .returned (.int .i64 n) ∧ I64 n ∧ match getW x V with
    | .ok m => n = m ∧ RS w' g s V 0
    | .bad k => k ≠ 0 ∧ RS w' g s V (k : Int)) ∧ Mod (fun k => k = g) w w') := by
  obtain ⟨p, C, h1, hv, hk⟩ := h.turn
  refine ref13_state_get_calls _ _ _ _ _ ?_
  refine bsel_of (fun h => absurd h (by decide)) (fun _ => ?_)
  refine ⟨0, by rw [add_row]; exact h1.lget rfl, bsel_of (fun h => absurd h (by decide)) (fun _ => ?_)⟩
  refine ⟨_, _, _, by rw [add_row]; exact h1.lget rfl, (rget_spec hv (by omega) x).mono ?_⟩
  rintro _ w2 ⟨rfl, hs2⟩
  refine .inl ⟨_, _, _, _, _, rfl, ?_⟩
  refine boxK (vs := [.string (S (getD x V).name), .string (S (getD x V).value), .bool (getD x V).exp, .bool (getD x V).ro]) rfl (by simp [Value.oneCell']) fun w4 hr4 hs4 hz4 => ?_
  refine ⟨_, hr4.lget rfl, ?_⟩
  have hst4 := hs2.trans hs4
  refine (rvalue_spec _ (getD_txt h.txt x)).mono ?_
  rintro _ w5 ⟨⟨m, ok, rfl, hi, hv5⟩, rfl⟩
  have h5 := h.still hst4
  have hm5 : Mod (fun k => k = g) w w5 := mod_still (Mod.refl _ _) hst4
  unfold getW
  cases hw : worthV (getD x V).value with
  | none =>
    rw [hw] at hv5
    subst hv5
    refine .inl ⟨_, _, rfl, bsel_of (fun _ => (xfail h5 130).mono ?_) (fun h => absurd h (by decide))⟩
    rintro _ w6 ⟨rfl, h6, hm6⟩
    exact .inl ⟨rfl, ⟨_, rfl, hi, (show (130 : Nat) ≠ 0 by decide), h6⟩, mod_trans hm5 hm6⟩
  | some n =>
    rw [hw] at hv5
    obtain ⟨rfl, rfl⟩ := hv5
    exact .inl ⟨_, _, rfl, bsel_of (fun h => absurd h (by decide)) (fun _ => ⟨⟨_, rfl, hi, rfl, h5⟩, hm5⟩)⟩
theorem xget0 {g : Nat} (x : Txt) : Calls Tryz.prog fn_ref13_state_get #[.pointer (some ⟨g, 0, none⟩), .string (S x), .bool false] w (fun r w' => r = .returned (.int .i64 0) ∧ w' = w) := by
  refine ref13_state_get_calls _ _ _ _ _ ?_
  exact bsel_of (fun _ => ⟨rfl, rfl⟩) (fun h => absurd h (by decide))
theorem xassigns {g : Nat} {s : Txt} {V : List Vr} {e : Int} (h : RS w g s V e) (hs : s.length ≤ 140737488355328) : Calls Tryz.prog fn_ref13_state_assigns #[.pointer (some ⟨g, 0, none⟩)] w (fun r w' => match asg s with
    | some p => r = .returned (.tuple #[.string (S p.1), .string (S p.2.1)]) ∧ RTo w g p.2.2 V e w'
    | none => r = .returned (.tuple #[.string (S []), .string (S [])]) ∧ RTo w g (trim s) V e w') := by
  refine ref13_state_assigns_calls _ _ _ ?_
  refine (xspace h).mono ?_
  rintro _ w1 ⟨rfl, h1⟩
  have htl := trim_len s
  refine .inl ⟨rfl, _, h1.1.text, (rname_spec (trim s) (by omega)).mono ?_⟩
  rintro _ w2 ⟨rfl, rfl⟩
  have hle := nameN_le true (trim s)
  refine .inl ⟨_, rfl, _, h1.1.text, by omega, by omega, ?_⟩
  rw [Int.toNat_natCast]
  obtain ⟨p, C, g1, _, hk⟩ := h1.1.turn
  refine allocK fun w3 hr3 hs3 hz3 => ?_
  refine (rop_spec hr3 rfl).mono ?_
  rintro _ w4 ⟨rfl, h4, hm4⟩
  have hst4 : Still w2 w4 := hs3.box (Nat.le_refl _) hm4
  have h4' := h1.1.still hst4
  have hmw4 := mod_still h1.2 hst4
  refine .inl ⟨_, rfl, fun w5 => w5 = w4 ∧ asg s = none, ⟨fun x w5 => x = decide (opAt ((trim s).drop (nameN true (trim s))) ∈ asgOps) ∧ w5 = w4, ?_, ?_⟩, ?_⟩
  rotate_right
  · rintro _ w5 ⟨rfl, ha⟩
    rw [ha]
    exact ⟨rfl, h4', hmw4⟩
  · generalize opAt ((trim s).drop (nameN true (trim s))) = o
    have yes : ∀ {x : Bool}, x = true → o ∈ asgOps → x = decide (o ∈ asgOps) ∧ w4 = w4 := fun h1 h2 => ⟨by rw [h1, decide_eq_true h2], rfl⟩
    refine bsel_of (fun h => yes h (by rw [of_decide_eq_true h]; decide)) (fun h1 => bsel_of (fun h => yes h (by rw [of_decide_eq_true h]; decide)) (fun h2 => bsel_of (fun h => yes h (by rw [of_decide_eq_true h]; decide)) (fun h3 => bsel_of (fun h => yes h (by rw [of_decide_eq_true h]; decide)) (fun h4 => bsel_of (fun h => yes h (by rw [of_decide_eq_true h]; decide)) (fun h5 => ⟨?_, rfl⟩)))))
    simp only [decide_eq_false_iff_not] at h1 h2 h3 h4 h5
    simp only [asgOps, List.mem_cons, List.not_mem_nil, or_false]
    apply decide_eq_decide.2
    exact ⟨fun e => by simp [e], fun e => by rcases e with e | e | e | e | e | e <;> first | exact e | (exfalso; first | exact h1 e | exact h2 e | exact h3 e | exact h4 e | exact h5 e)⟩
  rintro _ _ w5 ⟨rfl, rfl⟩
  have ea : asg s = if nameN true (trim s) ≠ 0 ∧ opAt ((trim s).drop (nameN true (trim s))) ∈ asgOps then some ((trim s).take (nameN true (trim s)), opAt ((trim s).drop (nameN true (trim s))), aft ((trim s).drop (nameN true (trim s)))) else none := rfl
  refine bsel_of (fun hx => ?_) (fun hx => ⟨rfl, by rw [ea, if_neg (fun e => of_decide_eq_false hx e.2)]⟩)
  have hx := of_decide_eq_true hx
  refine bsel_of (fun h0 => ?_) (fun h0 => ⟨rfl, by rw [ea, if_neg (fun e => e.1 (by have := of_decide_eq_false h0; omega))]⟩)
  have h0 : nameN true (trim s) ≠ 0 := by have := of_decide_eq_true h0; omega
  rw [ea, if_pos ⟨h0, hx⟩]
  have hpre := (opAt_mem (asgOps_ne hx)).2
  rw [List.isPrefixOf_iff_prefix] at hpre
  refine ⟨_, h4'.text, by omega, by omega, _, h4.lget rfl, by omega, by have := hpre.length_le; omega, ?_⟩
  obtain ⟨p5, C5, r5, _, k5⟩ := h4'.turn
  refine stK r5 (by simp) (by simp [Value.oneCell']) fun w6 h6 hm6 hz6 => ?_
  simp only [Int.toNat_natCast] at h6
  exact ⟨rfl, k5 _ _ _ h6 hm6, mod_trans hmw4 hm6⟩
end Go.Proofs.YtgincpkggnndeaaGreatDoor
