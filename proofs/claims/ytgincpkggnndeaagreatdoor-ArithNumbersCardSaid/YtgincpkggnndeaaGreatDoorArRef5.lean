/- Expressions of numbers: the reference's reading and reckoning at once, walked by the relation of its reading. Conditions: as each theorem names them. -/
import Derived.Test.YtgincpkggnndeaaGreatDoorArRef4
namespace Go.Proofs.YtgincpkggnndeaaGreatDoor
open Go.RowKit Vc

/-- What a part of the reference comes to: it reads q, and reckons it if it counts. -/
def RP (w : World) (g : Nat) (live : Bool) (V : List Vr) (q : Pr (Tm × Txt)) (e : Ending) (w' : World) : Prop :=
  ∃ n, e = .returned (.int .i64 n) ∧ I64 n ∧ Mod (fun k => k = g) w w' ∧ match q with
    | .bad k => k ≠ 0 ∧ ∃ s', RS w' g s' V (k : Int)
    | .ok p => if live = true then (match ev p.1 V with
        | .ok z => n = z.1 ∧ RS w' g p.2 z.2 0 ∧ z.2.length ≤ V.length + szT p.1
        | .bad k => k ≠ 0 ∧ ∃ s' V', RS w' g s' V' (k : Int)) else RS w' g p.2 V 0
abbrev Cnd (live : Bool) (V : List Vr) (q : Pr (Tm × Txt)) : Prop := live = true → ∃ t r, q = .ok (t, r) ∧ V.length + szT t < 900000
theorem Cnd.no (V : List Vr) (q : Pr (Tm × Txt)) : Cnd false V q := fun h => by cases h
theorem Cnd.bad {live : Bool} {V : List Vr} {k : Nat} (h : Cnd live V (.bad k)) : live = false := by
  cases live with
  | false => rfl
  | true => obtain ⟨t, r, h1, _⟩ := h rfl; cases h1
theorem Cnd.len {V : List Vr} {t : Tm} {r : Txt} (h : Cnd true V (.ok (t, r))) : V.length + szT t < 900000 := by
  obtain ⟨t', r', h1, h2⟩ := h rfl
  injection h1 with h1
  injection h1 with h1 _
  rw [h1]
  exact h2
theorem Cnd.sub {live : Bool} {V : List Vr} {t t' : Tm} {r r' : Txt} (h : Cnd live V (.ok (t, r))) (hs : szT t' ≤ szT t) : Cnd live V (.ok (t', r')) := fun hl => by
  subst hl
  exact ⟨_, _, rfl, by have := h.len; omega⟩
def UnSp (g d : Nat) (s : Txt) (q : Pr (Tm × Txt)) : Prop := ∀ (w : World) (V : List Vr) (live : Bool), RS w g s V 0 → Cnd live V q → d + s.length ≤ 2000000 → Calls Tryz.prog fn_ref13_state_unary #[.pointer (some ⟨g, 0, none⟩), .bool live, .int .i64 (d : Int)] w (RP w g live V q)
def ExSp (g d : Nat) (s : Txt) (q : Pr (Tm × Txt)) : Prop := ∀ (w : World) (V : List Vr) (live : Bool), RS w g s V 0 → Cnd live V q → d + s.length ≤ 2000000 → Calls Tryz.prog fn_ref13_state_expr #[.pointer (some ⟨g, 0, none⟩), .bool live, .int .i64 (d : Int)] w (RP w g live V q)
def CoSp (g d : Nat) (s : Txt) (q : Pr (Tm × Txt)) : Prop := ∀ (w : World) (V : List Vr) (live : Bool), RS w g s V 0 → Cnd live V q → d + s.length ≤ 2000000 → Calls Tryz.prog fn_ref13_state_cond #[.pointer (some ⟨g, 0, none⟩), .bool live, .int .i64 (d : Int)] w (RP w g live V q)
def BiSp (g m d : Nat) (s : Txt) (q : Pr (Tm × Txt)) : Prop := ∀ (w : World) (V : List Vr) (live : Bool), RS w g s V 0 → Cnd live V q → d + s.length ≤ 2000000 → Calls Tryz.prog fn_ref13_state_binary #[.pointer (some ⟨g, 0, none⟩), .int .i64 (m : Int), .bool live, .int .i64 (d : Int)] w (RP w g live V q)
/-- The loop over operators of two. -/
inductive Lp (g m d : Nat) : Tm → Txt → Pr (Tm × Txt) → Prop
  | done {a : Tm} {s : Txt} (h : lvl (opAt s) < m ∨ lvl (opAt s) = 0) : Lp g m d a s (.ok (a, trim s))
  | bad {a : Tm} {s : Txt} {k : Nat} (h : ¬ (lvl (opAt s) < m ∨ lvl (opAt s) = 0)) (h1 : BiSp g (lvl (opAt s) + 1) d (aft s) (.bad k)) : Lp g m d a s (.bad k)
  | step {a b : Tm} {s r : Txt} {q : Pr (Tm × Txt)} (h : ¬ (lvl (opAt s) < m ∨ lvl (opAt s) = 0)) (h1 : BiSp g (lvl (opAt s) + 1) d (aft s) (.ok (b, r))) (hl : r.length ≤ (aft s).length) (h2 : Lp g m d (.bin (opAt s) a b) r q) : Lp g m d a s q
theorem Lp.left {g m d : Nat} {a : Tm} {s : Txt} {q : Pr (Tm × Txt)} (h : Lp g m d a s q) : ∀ t r, q = .ok (t, r) → szT a ≤ szT t ∧ ∀ V k, ev a V = .bad k → ev t V = .bad k := by
  induction h with
  | done h =>
    intro t r e
    injection e with e
    injection e with e _
    rw [← e]
    exact ⟨Nat.le_refl _, fun _ _ h => h⟩
  | bad h h1 => intro t r e; cases e
  | step h h1 hl h2 ih =>
    intro t r e
    obtain ⟨i1, i2⟩ := ih t r e
    simp only [szT] at i1
    refine ⟨by omega, fun V k hk => i2 V k ?_⟩
    simp only [ev]
    rw [hk]
    rfl
/-- What is done where there is an error already: nothing. -/
theorem dead_unary {w : World} {g : Nat} {s : Txt} {V : List Vr} {e : Int} (h : RS w g s V e) (he : e ≠ 0) (live : Bool) (d : Int) : Calls Tryz.prog fn_ref13_state_unary #[.pointer (some ⟨g, 0, none⟩), .bool live, .int .i64 d] w (fun r w' => r = .returned (.int .i64 0) ∧ RTo w g s V e w') := by
  refine ref13_state_unary_calls _ _ _ _ _ ?_
  refine ⟨fun w2 => RTo w g s V e w2, bsel_of (fun _ => (xfail h 2).mono ?_) (fun _ => ⟨h, Mod.refl _ _⟩), ?_⟩
  · rintro _ w1 ⟨rfl, h1⟩
    rw [if_neg he] at h1
    exact .inl ⟨rfl, h1⟩
  rintro _ w2 h2
  exact ⟨_, by rw [add_row]; exact h2.1.err, bsel_of (fun _ => ⟨rfl, h2⟩) (fun hx => absurd (nd hx) he)⟩
theorem dead_binary {w : World} {g : Nat} {s : Txt} {V : List Vr} {e : Int} (h : RS w g s V e) (he : e ≠ 0) (m : Int) (live : Bool) (d : Int) : Calls Tryz.prog fn_ref13_state_binary #[.pointer (some ⟨g, 0, none⟩), .int .i64 m, .bool live, .int .i64 d] w (fun r w' => r = .returned (.int .i64 0) ∧ RTo w g s V e w') := by
  refine ref13_state_binary_calls _ _ _ _ _ _ ?_
  refine (dead_unary h he live d).mono ?_
  rintro _ w1 ⟨rfl, h1⟩
  refine .inl ⟨_, rfl, fun _ w2 => RTo w g s V e w2, fun _ _ => 0, h1, ?_⟩
  rintro a _ w2 h2
  exact ⟨_, by rw [add_row]; exact h2.1.err, bsel_of (fun hx => absurd (of_decide_eq_true hx) he) (fun _ => ⟨rfl, h2⟩)⟩
theorem dead_cond {w : World} {g : Nat} {s : Txt} {V : List Vr} {e : Int} (h : RS w g s V e) (he : e ≠ 0) (live : Bool) (d : Int) : Calls Tryz.prog fn_ref13_state_cond #[.pointer (some ⟨g, 0, none⟩), .bool live, .int .i64 d] w (fun r w' => r = .returned (.int .i64 0) ∧ RTo w g s V e w') := by
  refine ref13_state_cond_calls _ _ _ _ _ ?_
  refine (dead_binary h he 1 live d).mono ?_
  rintro _ w1 ⟨rfl, h1⟩
  exact .inl ⟨_, rfl, _, by rw [add_row]; exact h1.1.err, bsel_of (fun _ => ⟨rfl, h1⟩) (fun hx => absurd (nd hx) he)⟩
section
variable {w : World} {g : Nat} {s : Txt} {V : List Vr}
theorem xtake_yes {o : Txt} {e : Int} (h : RS w g s V e) (ho : o ≠ []) (hy : opAt s = o) : Calls Tryz.prog fn_ref13_state_take #[.pointer (some ⟨g, 0, none⟩), .string (S o)] w (fun r w' => r = .returned (.bool true) ∧ RTo w g (aft s) V e w') := by
  have := xtake h o ho
  rw [decide_eq_true hy, if_pos hy] at this
  exact this
theorem xtake_no {o : Txt} {e : Int} (h : RS w g s V e) (ho : o ≠ []) (hy : opAt s ≠ o) : Calls Tryz.prog fn_ref13_state_take #[.pointer (some ⟨g, 0, none⟩), .string (S o)] w (fun r w' => r = .returned (.bool false) ∧ RTo w g (trim s) V e w') := by
  have := xtake h o ho
  rw [decide_eq_false hy, if_neg hy] at this
  exact this
theorem xtake_any {o : Txt} {e : Int} (h : RS w g s V e) (ho : o ≠ []) : Calls Tryz.prog fn_ref13_state_take #[.pointer (some ⟨g, 0, none⟩), .string (S o)] w (fun r w' => ∃ b s', r = .returned (.bool b) ∧ RTo w g s' V e w') := by
  refine (xtake h o ho).mono ?_
  rintro _ w1 ⟨rfl, h1⟩
  exact ⟨_, _, rfl, h1⟩
theorem RP.sgn {w1 w2 : World} {live : Bool} {t : Tm} {r op : Txt} {n : Int} (hm : Mod (fun k => k = g) w w1) (h : RP w1 g live V (.ok (t, r)) (.returned (.int .i64 n)) w2) : RP w g live V (.ok (.sgn op t, r)) (.returned (.int .i64 (una op n))) w2 := by
  obtain ⟨n', e, hi, hm2, h⟩ := h
  injection e with e
  injection e with _ e
  subst e
  refine ⟨_, rfl, una_in hi, mod_trans hm hm2, ?_⟩
  dsimp only at h ⊢
  split
  · rename_i hl
    rw [if_pos hl] at h
    simp only [ev]
    cases hev : ev t V with
    | bad k => rw [hev] at h; exact h
    | ok z =>
      rw [hev] at h
      exact ⟨congrArg _ h.1, h.2.1, h.2.2⟩
  · rename_i hl
    rw [if_neg hl] at h
    exact h
theorem RP.bad {w1 w2 : World} {live live' : Bool} {k : Nat} {n : Int} {v : Value} (hn : I64 n) (hm : Mod (fun k => k = g) w w1) (h : RP w1 g live V (.bad k) (.returned v) w2) : RP w g live' V (.bad k) (.returned (.int .i64 n)) w2 := by
  obtain ⟨n', e, hi, hm2, h⟩ := h
  exact ⟨_, rfl, hn, mod_trans hm hm2, h⟩
theorem RP.ret {live : Bool} {q : Pr (Tm × Txt)} {e : Ending} {w' : World} (h : RP w g live V q e w') : ∃ n, e = .returned (.int .i64 n) ∧ I64 n := by
  obtain ⟨n, h1, h2, _⟩ := h
  exact ⟨n, h1, h2⟩
/-- Behind the depth's test. -/
theorem depthJ {d : Nat} (h : RS w g s V 0) {J : World → Prop} {P : List PanicEntry → World → Prop} (hJ : ∀ w2, RTo w g s V (if 30 < d then 2 else 0) w2 → J w2) : bsel (decide ((30 : Int) < (d : Int))) (Calls Tryz.prog fn_ref13_state_fail #[.pointer (some ⟨g, 0, none⟩), .int .i64 2] w (fun ed w1 => (ed = .returned (.tuple #[]) ∧ J w1) ∨ ∃ ch, ed = .panicked ch ∧ P ch w1)) (J w) := by
  refine bsel_of (fun hx => ?_) (fun hx => ?_)
  · have hx := of_decide_eq_true hx
    refine (xfail h 2).mono ?_
    rintro _ w1 ⟨rfl, h1⟩
    exact .inl ⟨rfl, hJ _ (by rw [if_pos (by omega)]; exact h1)⟩
  · have hx := of_decide_eq_false hx
    exact hJ _ ⟨by rw [if_neg (by omega)]; exact h, Mod.refl _ _⟩
end
end Go.Proofs.YtgincpkggnndeaaGreatDoor
