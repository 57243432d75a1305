/- Expressions of numbers: what the program answers, and what the reference answers: the same. Conditions: the library's tables and errors lie as its text lays them (Env); the variables rise by name; they, and the text, are of moderate size. -/
import Derived.Test.YtgincpkggnndeaaGreatDoorArRef9
import Derived.Test.YtgincpkggnndeaaGreatDoorArTok
namespace Go.Proofs.YtgincpkggnndeaaGreatDoor
open Go.RowKit Vc

/-- What an expression is worth, and the variables behind it. -/
def rd (s : Txt) : Pr (Tm × Txt) := (ps (50 * s.length + 100) (.expr 1) s).getD (.bad 0)
theorem rd_eq (s : Txt) : ps (50 * s.length + 100) (.expr 1) s = some (rd s) := by
  obtain ⟨r, h, _⟩ := ps_total (50 * s.length + 100) (.expr 1) s (fun _ _ _ e => by cases e) (by simp only [rank]; omega)
  unfold rd
  rw [h]
  rfl
theorem rd_cl (s : Txt) : Cl (.expr 1) s (rd s) := ps_good _ _ _ _ (rd_eq s)
def evalR (s : Txt) (V : List Vr) : Pr (Int × List Vr) := if trim s = [] then .ok (0, V) else match rd (trim s) with
  | .bad k => .bad k
  | .ok p => if trim p.2 = [] then ev p.1 V else .bad 130
/-- How it is answered. -/
def EvAns (w : World) (r : Pr (Int × List Vr)) (e : Ending) (w' : World) : Prop := (match r with
  | .ok p => I64 p.1 ∧ ∃ q D, e = .returned (.tuple #[.int .i64 p.1, .slice q p.2.length D, .int .i64 0]) ∧ VarAt w' q p.2.length D p.2
  | .bad k => e = .returned (.tuple #[.int .i64 0, .slice none 0 0, .int .i64 (k : Int)])) ∧ Still w w'
/-- What all of a text comes to, as the reference reads it. -/
def WhP (w : World) (g : Nat) (s : Txt) (V : List Vr) (live : Bool) (e : Ending) (w' : World) : Prop := ∃ n, e = .returned (.int .i64 n) ∧ I64 n ∧ Mod (fun k => k = g) w w' ∧ (if trim s = [] then n = 0 ∧ ∃ s', RS w' g s' V 0 else match rd (trim s) with
  | .bad k => k ≠ 0 ∧ ∃ s', RS w' g s' V (k : Int)
  | .ok p => if trim p.2 = [] then (if live = true then (match ev p.1 V with
      | .ok z => n = z.1 ∧ ∃ s', RS w' g s' z.2 0
      | .bad k => k ≠ 0 ∧ ∃ s' V', RS w' g s' V' (k : Int)) else ∃ s', RS w' g s' V 0) else ∃ s', RS w' g s' V 130)
theorem rest_spec {w2 : World} {g : Nat} {s' : Txt} {V' : List Vr} {e' n : Int} {R : Ending → World → Prop} (h3 : RS w2 g s' V' e') (hR : ∀ w3 s'', RTo w2 g s'' V' (if e' = 0 then (if trim s' = [] then 0 else 130) else e') w3 → R (.returned (.int .i64 n)) w3) :
    Calls Tryz.prog fn_ref13_state_space #[.pointer (some ⟨g, 0, none⟩)] w2 (fun ed3 w3 => (ed3 = .returned (.tuple #[]) ∧ someK (some (Addr.mk g 0 none)) (fun a1 => ∃ v1 : List UInt8, w3.cell? a1 = some (.string (S v1)) ∧ bsel (!decide (v1 = [])) (Calls Tryz.prog fn_ref13_state_fail #[.pointer (some ⟨g, 0, none⟩), .int .i64 130] w3 (fun ed4 w4 => (ed4 = .returned (.tuple #[]) ∧ R (.returned (.int .i64 n)) w4) ∨ ∃ ch, ed4 = .panicked ch ∧ R (.panicked ch) w4)) (R (.returned (.int .i64 n)) w3))) ∨ ∃ ch, ed3 = .panicked ch ∧ R (.panicked ch) w3) := by
  refine (xspace h3).mono ?_
  rintro _ w3 ⟨rfl, h4⟩
  refine .inl ⟨rfl, _, h4.1.text, bsel_of (fun hne => (xfail h4.1 130).mono ?_) (fun he => ?_)⟩
  · rintro _ w4 ⟨rfl, h5⟩
    have hne : trim s' ≠ [] := fun e => by rw [decide_eq_true e] at hne; cases hne
    rw [if_neg hne] at hR
    exact .inl ⟨rfl, hR _ _ (h4.trans h5)⟩
  · have he := nd he
    rw [if_pos he] at hR
    refine hR _ (trim s') ?_
    by_cases h0 : e' = 0
    · rw [if_pos h0, ← h0]; exact h4
    · rw [if_neg h0]; exact h4
theorem whole_spec {w : World} {g : Nat} {s : Txt} {V : List Vr} (h : RS w g s V 0) (_hs : s.length ≤ 800000) (hV : V.length + s.length < 900000) (live : Bool) (hl : live = true → trim s ≠ [] → ∃ p, rd (trim s) = .ok p ∧ trim p.2 = []) :
    Calls Tryz.prog fn_ref13_state_whole #[.pointer (some ⟨g, 0, none⟩), .bool live] w (WhP w g s V live) := by
  have htl := trim_len s
  refine ref13_state_whole_calls _ _ _ _ ?_
  refine (xspace h).mono ?_
  rintro _ w1 ⟨rfl, h1⟩
  refine .inl ⟨rfl, _, h1.1.text, bsel_of (fun hx => ?_) (fun hx => ?_)⟩
  · have hx := of_decide_eq_true hx
    refine ⟨_, rfl, by decide, h1.2, ?_⟩
    rw [if_pos hx]
    exact ⟨rfl, _, h1.1⟩
  have hx := of_decide_eq_false hx
  have hcl : ExSp g 1 (trim s) (rd (trim s)) := Cl_spec g (rd_cl (trim s))
  have hsz := fun t r => ps_sz (50 * (trim s).length + 100) (.expr 1) (trim s) t r
  have hcnd : Cnd live V (rd (trim s)) := by
    intro h2
    obtain ⟨p, hp, _⟩ := hl h2 hx
    have := hsz p.1 p.2 (by rw [rd_eq, hp])
    simp only [accSz] at this
    exact ⟨p.1, p.2, hp, by omega⟩
  refine (hcl w1 V live h1.1 hcnd (by omega)).mono ?_
  rintro _ w2 ⟨n, rfl, hi, hm2, h2⟩
  have hm12 := mod_trans h1.2 hm2
  refine .inl ⟨_, rfl, ?_⟩
  cases hr : rd (trim s) with
  | bad k =>
    rw [hr] at h2
    obtain ⟨hk, s', h2⟩ := h2
    refine rest_spec h2 fun w3 s'' h3 => ⟨_, rfl, hi, mod_trans hm12 h3.2, ?_⟩
    rw [if_neg hx, hr]
    rw [if_neg (by omega)] at h3
    exact ⟨hk, _, h3.1⟩
  | ok p =>
    rw [hr] at h2
    dsimp only at h2
    by_cases hlv : live = true
    · rw [if_pos hlv] at h2
      obtain ⟨p', hp', htp⟩ := hl hlv hx
      rw [hr] at hp'
      injection hp' with hp'
      subst hp'
      cases hev : ev p.1 V with
      | bad k =>
        rw [hev] at h2
        obtain ⟨hk, s', V', h2⟩ := h2
        refine rest_spec h2 fun w3 s'' h3 => ⟨_, rfl, hi, mod_trans hm12 h3.2, ?_⟩
        rw [if_neg hx, hr]
        dsimp only
        rw [if_pos htp, if_pos hlv, hev]
        rw [if_neg (by omega)] at h3
        exact ⟨hk, _, _, h3.1⟩
      | ok z =>
        rw [hev] at h2
        refine rest_spec h2.2.1 fun w3 s'' h3 => ⟨_, rfl, hi, mod_trans hm12 h3.2, ?_⟩
        rw [if_neg hx, hr]
        dsimp only
        rw [if_pos htp, if_pos hlv, hev]
        rw [if_pos rfl, if_pos htp] at h3
        exact ⟨h2.1, _, h3.1⟩
    · rw [if_neg hlv] at h2
      refine rest_spec h2 fun w3 s'' h3 => ⟨_, rfl, hi, mod_trans hm12 h3.2, ?_⟩
      rw [if_neg hx, hr]
      dsimp only
      rw [if_pos rfl] at h3
      by_cases htp : trim p.2 = []
      · rw [if_pos htp] at h3
        rw [if_pos htp, if_neg hlv]
        exact ⟨_, h3.1⟩
      · rw [if_neg htp] at h3
        rw [if_neg htp]
        exact ⟨_, h3.1⟩
theorem reval_spec {w : World} {p : Option Addr} {n C : Nat} {V : List Vr} {s : Txt} (hv : VarAt w p n C V) (htx : ∀ v ∈ V, v.value.length ≤ 140737488355328) (hs : s.length ≤ 800000) (hV : V.length + s.length < 900000) :
    Calls Tryz.prog fn_ref13_Eval #[.string (S s), .slice p n C] w (EvAns w (evalR s V)) := by
  have hn := hv.1
  subst hn
  refine ref13_Eval_calls _ _ _ _ _ _ ?_
  refine allocK fun w1 r1 s1 z1 => ?_
  have h1 : RS w1 w.heap.size s V 0 := ⟨⟨p, C, r1, hv.still s1⟩, htx⟩
  refine (whole_spec h1 hs hV false (fun h => by cases h)).mono ?_
  rintro _ w2 ⟨m, rfl, hi, hm2, h2⟩
  have hs2 : Still w w2 := s1.box (Nat.le_refl _) hm2
  refine .inl ⟨_, rfl, ?_⟩
  unfold evalR
  have fin : (trim s ≠ [] → ∃ p, rd (trim s) = .ok p ∧ trim p.2 = []) → letW (w2.alloc (.cells ⟨[.string (S s), .slice p V.length C, .int .i64 0]⟩ 69)) (fun w3 => Calls Tryz.prog fn_ref13_state_whole #[.pointer (some ⟨w2.heap.size, 0, none⟩), .bool true] w3 (fun ed w4 => (∃ r1 : Int, ed = .returned (.int .i64 r1) ∧ ∃ v2 : Int, w4.cell? ⟨w2.heap.size, 2, none⟩ = some (.int .i64 v2) ∧ bsel (!decide (v2 = 0)) (∃ v3 : Int, w4.cell? ⟨w2.heap.size, 2, none⟩ = some (.int .i64 v3) ∧ EvAns w (evalR s V) (.returned (.tuple #[.int .i64 0, .slice none 0 0, .int .i64 v3])) w4.drew) (∃ (v4 : Option Addr) (vL vC : Nat), w4.cell? ⟨w2.heap.size, 1, none⟩ = some (.slice v4 vL vC) ∧ EvAns w (evalR s V) (.returned (.tuple #[.int .i64 r1, .slice v4 vL vC, .int .i64 0])) w4.drew)) ∨ ∃ ch, ed = .panicked ch ∧ EvAns w (evalR s V) (.panicked ch) w4)) := by
    intro hrd
    refine allocK fun w3 r3 s3 z3 => ?_
    have hs3 := hs2.trans s3
    have h3 : RS w3 w2.heap.size s V 0 := ⟨⟨p, C, r3, hv.still hs3⟩, htx⟩
    refine (whole_spec h3 hs hV true (fun _ => hrd)).mono ?_
    rintro _ w4 ⟨m4, rfl, hi4, hm4, h4⟩
    have hs4 : Still w w4 := hs3.box hs2.size hm4
    refine .inl ⟨_, rfl, ?_⟩
    have okk : ∀ {s' : Txt} {V' : List Vr}, RS w4 w2.heap.size s' V' 0 → evalR s V = .ok (m4, V') → ∃ v2 : Int, w4.cell? ⟨w2.heap.size, 2, none⟩ = some (.int .i64 v2) ∧ bsel (!decide (v2 = 0)) (∃ v3 : Int, w4.cell? ⟨w2.heap.size, 2, none⟩ = some (.int .i64 v3) ∧ EvAns w (evalR s V) (.returned (.tuple #[.int .i64 0, .slice none 0 0, .int .i64 v3])) w4.drew) (∃ (v4 : Option Addr) (vL vC : Nat), w4.cell? ⟨w2.heap.size, 1, none⟩ = some (.slice v4 vL vC) ∧ EvAns w (evalR s V) (.returned (.tuple #[.int .i64 m4, .slice v4 vL vC, .int .i64 0])) w4.drew) := by
      intro s' V' h5 he
      obtain ⟨pp, CC, r5, v5, _⟩ := h5.turn
      refine ⟨_, h5.err, bsel_of (fun hx => absurd hx (by decide)) (fun _ => ⟨_, _, _, r5.lget rfl, ?_⟩)⟩
      rw [he]
      exact ⟨⟨hi4, _, _, rfl, v5.still (Still.refl _).toDrew⟩, hs4.toDrew⟩
    have ee : evalR s V = if trim s = [] then .ok (0, V) else match rd (trim s) with
      | .bad k => .bad k
      | .ok p => if trim p.2 = [] then ev p.1 V else .bad 130 := rfl
    by_cases h0 : trim s = []
    · rw [if_pos h0] at h4 ee
      obtain ⟨rfl, s', h4⟩ := h4
      exact okk h4 ee
    · obtain ⟨p0, hp0, htp⟩ := hrd h0
      rw [if_neg h0, hp0] at h4 ee
      dsimp only at h4 ee
      rw [if_pos htp] at h4 ee
      rw [if_pos rfl] at h4
      cases hev : ev p0.1 V with
      | bad k =>
        rw [hev] at h4 ee
        obtain ⟨hk, s', V', h4⟩ := h4
        refine ⟨_, h4.err, bsel_of (fun _ => ⟨_, h4.err, ?_⟩) (fun hx => absurd (nd hx) (by omega))⟩
        rw [ee]
        exact ⟨rfl, hs4.toDrew⟩
      | ok z =>
        rw [hev] at h4 ee
        obtain ⟨hm, s', h4⟩ := h4
        exact okk h4 (by rw [ee, hm])
  by_cases h0 : trim s = []
  · rw [if_pos h0] at h2
    obtain ⟨_, s', h2⟩ := h2
    exact ⟨_, h2.err, bsel_of (fun hx => absurd hx (by decide)) (fun _ => fin (fun h => absurd h0 h))⟩
  · rw [if_neg h0] at h2 ⊢
    cases hr : rd (trim s) with
    | bad k =>
      rw [hr] at h2
      obtain ⟨hk, s', h2⟩ := h2
      exact ⟨_, h2.err, bsel_of (fun _ => ⟨_, h2.err, rfl, hs2.toDrew⟩) (fun hx => absurd (nd hx) (by omega))⟩
    | ok q =>
      rw [hr] at h2
      dsimp only at h2 ⊢
      by_cases htp : trim q.2 = []
      · rw [if_pos htp, if_neg (by decide)] at h2
        obtain ⟨s', h2⟩ := h2
        have := fin (fun _ => ⟨q, hr, htp⟩)
        have ee : evalR s V = ev q.1 V := by
          unfold evalR
          rw [if_neg h0, hr]
          dsimp only
          rw [if_pos htp]
        rw [ee] at this
        rw [if_pos htp]
        exact ⟨_, h2.err, bsel_of (fun hx => absurd hx (by decide)) (fun _ => this)⟩
      · rw [if_neg htp] at h2 ⊢
        obtain ⟨s', h2⟩ := h2
        exact ⟨_, h2.err, bsel_of (fun _ => ⟨_, h2.err, rfl, hs2.toDrew⟩) (fun hx => absurd hx (by decide))⟩
end Go.Proofs.YtgincpkggnndeaaGreatDoor
