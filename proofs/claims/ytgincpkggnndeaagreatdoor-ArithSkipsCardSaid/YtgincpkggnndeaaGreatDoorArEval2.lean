/- Expressions of numbers: a tree's evaluation, walked. Conditions: the library's tables and errors lie as its text lays them (Env). -/
import Derived.Test.YtgincpkggnndeaaGreatDoorArEval
namespace Go.Proofs.YtgincpkggnndeaaGreatDoor
open Go.RowKit Vc

/-- What an evaluation comes to. -/
def EvPost (w : World) (g : Nat) (V : List Vr) (t : Tm) (e : Ending) (w' : World) : Prop := (match ev t V with
  | .ok p => e = .returned (.int .i64 p.1) ∧ WS w' g p.2 ∧ I64 p.1 ∧ p.2.length ≤ V.length + szT t
  | .bad k => e = .panicked (errP k)) ∧ Mod (fun k => k = g) w w'
theorem WS.drew {w : World} {g : Nat} {V : List Vr} (h : WS w g V) : WS w.drew g V := h.still (Still.refl _).toDrew
theorem WS.tree {w w' : World} {g b : Nat} {V : List Vr} {t : Tm} (h : WS w g V) (ht : TreeAt w t b) (hm : Mod (fun k => k = g) w w') : TreeAt w' t b := by
  obtain ⟨⟨p, C, h1, _⟩, _, _⟩ := h
  exact ht.far h1 (by decide) (by decide) hm
theorem WS.far {w w' : World} {g b : Nat} {V : List Vr} {t : TypeId} {cs : Array Value} (h : WS w g V) (hr : Row w b t cs) (ht : t ≠ 64) (hm : Mod (fun k => k = g) w w') : Row w' b t cs := by
  obtain ⟨⟨p, C, h1, _⟩, _, _⟩ := h
  exact hr.far' h1 ht hm
theorem mod_trans {a b c : World} {g : Nat} (h1 : Mod (fun k => k = g) a b) (h2 : Mod (fun k => k = g) b c) : Mod (fun k => k = g) a c := Mod.trans h1 h2 (fun _ h => h) (fun _ _ h => h)
theorem mod_still {a b c : World} {g : Nat} (h1 : Mod (fun k => k = g) a b) (h2 : Still b c) : Mod (fun k => k = g) a c := Mod.trans h1 h2 (fun _ h => h) (fun _ _ h => h.elim)
theorem still_mod {a b c : World} {g : Nat} (h1 : Still a b) (h2 : Mod (fun k => k = g) b c) : Mod (fun k => k = g) a c := Mod.trans h1 h2 (fun _ h => h.elim) (fun _ _ h => h)
theorem drew_mod {a b : World} {g : Nat} (h : Mod (fun k => k = g) a.drew b) : Mod (fun k => k = g) a b := ⟨h.os, h.tape, h.output, h.size, h.block⟩
theorem setR_len (V : List Vr) (x y : Txt) : (setR V x y).1.length ≤ V.length + 1 := by
  unfold setR
  split
  · split
    · exact Nat.zero_le _
    · rw [ins_length]
      split <;> omega
  · exact Nat.zero_le _
theorem setR_rise {V : List Vr} (h : Rising V) (x y : Txt) : Rising (setR V x y).1 := by
  unfold setR
  split
  · split
    · exact List.Pairwise.nil
    · exact ins_rising _ h
  · exact List.Pairwise.nil
theorem getW_in {x : Txt} {V : List Vr} {n : Int} (hgw : getW x V = .ok n) : I64 n := by
  unfold getW at hgw
  split at hgw
  · rename_i m hm
    injection hgw with hgw
    subst hgw
    unfold worthV at hm
    split at hm
    · injection hm with hm
      subst hm
      exact (show I64 0 by decide)
    · split at hm
      · rename_i c r _ _
        cases hv : numV r with
        | none => rw [hv] at hm; cases hm
        | some q =>
          rw [hv] at hm
          injection hm with hm
          have hm : -q = m := hm
          have := numV_range hv
          exact ⟨by omega, by omega⟩
      · have := numV_range hm
        exact ⟨by omega, this.2⟩
  · cases hgw
set_option maxHeartbeats 4000000 in
theorem eval_spec {w0 : World} (he : Env w0) {g : Nat} (hg : w0.heap.size ≤ g) : ∀ (t : Tm) {w : World} {b : Nat} {V : List Vr}, Still w0 w → TmOk t → TreeAt w t b → WS w g V → V.length + szT t < 900000 →
    Calls Tryz.prog fn_arith_world_eval #[.pointer (some ⟨g, 0, none⟩), .pointer (some ⟨b, 0, none⟩)] w (EvPost w g V t)
  | .num n, w, b, V, h0, hok, ht, hw, hn => by
    refine arith_world_eval_calls _ _ _ _ ?_
    have hr : Row w b _ _ := ht
    refine ⟨(0 : Int), hr.lget rfl, ?_⟩
    repeat refine bsel_of (fun h => absurd h (by decide)) (fun _ => ?_)
    exact ⟨n, by rw [add_row]; exact hr.lget rfl, ⟨rfl, hw, hok, Nat.le_add_right _ _⟩, Mod.refl _ _⟩
  | .nam x, w, b, V, h0, hok, ht, hw, hn => by
    refine arith_world_eval_calls _ _ _ _ ?_
    have hr : Row w b _ _ := ht
    refine ⟨(1 : Int), hr.lget rfl, bsel_of (fun _ => ?_) (fun h => absurd h (by decide))⟩
    refine ⟨x, by rw [add_row]; exact hr.lget rfl, (wget_spec (he.still h0) hw (by omega) x).mono ?_⟩
    rintro e w1 ⟨ha, hs1⟩
    unfold EvPost
    simp only [ev]
    cases hgw : getW x V with
    | bad k =>
      rw [hgw] at ha
      exact .inr ⟨_, ha, rfl, still_mod hs1 (Mod.refl _ _)⟩
    | ok n =>
      rw [hgw] at ha
      exact .inl ⟨n, ha, ⟨rfl, hw.still hs1, getW_in hgw, Nat.le_add_right _ _⟩, still_mod hs1 (Mod.refl _ _)⟩
  | .sgn op t, w, b, V, h0, hok, ⟨c, k, hr, hc, ht⟩, hw, hn => by
    refine arith_world_eval_calls _ _ _ _ ?_
    simp only [szT] at hn
    refine ⟨(2 : Int), hr.lget rfl, ?_⟩
    repeat refine bsel_of (fun h => absurd h (by decide)) (fun _ => ?_)
    refine bsel_of (fun _ => ?_) (fun h => absurd h (by decide))
    refine ⟨fun wq => Row wq b 79 ⟨tcell 2 0 op [] (kids c 1)⟩ ∧ Row wq c 59 ⟨[kid k]⟩, ⟨hr.drew, hc.drew⟩, op, fun wq hq => by rw [add_row]; exact hq.1.lget rfl, some ⟨c, 0, none⟩, 1, 1, fun wq hq => by rw [add_row]; exact hq.1.lget rfl, by decide, by decide, some ⟨k, 0, none⟩, fun wq hq => by rw [add_row]; exact hq.2.lget rfl, ?_⟩
    refine (eval_spec he hg t h0.toDrew hok.2 (ht.still (Still.refl _).toDrew) hw.drew (by omega)).mono ?_
    rintro e w2 ⟨h1, hm2⟩
    have hmd := drew_mod hm2
    unfold EvPost
    simp only [ev]
    cases hev : ev t V with
    | bad j =>
      rw [hev] at h1
      exact .inr ⟨_, h1, rfl, hmd⟩
    | ok p =>
      rw [hev] at h1
      obtain ⟨rfl, hw2, hi, hl⟩ := h1
      refine .inl ⟨_, rfl, ⟨hw.far hr (by decide) hmd, hw.far hc (by decide) hmd⟩, (unary_spec op p.1).mono ?_⟩
      rintro _ w3 ⟨rfl, rfl⟩
      exact .inl ⟨_, rfl, ⟨rfl, hw2, una_in hi, hl⟩, hmd⟩
  | .bin op x y, w, b, V, h0, hok, ⟨c, k1, k2, hr, hc, hx, hy⟩, hw, hn => by
    refine arith_world_eval_calls _ _ _ _ ?_
    simp only [szT] at hn
    have slow : Calls Tryz.prog fn_arith_world_eval #[.pointer (some ⟨g, 0, none⟩), .pointer (some ⟨k1, 0, none⟩)] w (EvPost w g V x) := eval_spec he hg x h0 hok.2.1 hx hw (by omega)
    have st : ∀ {w' : World}, Mod (fun k => k = g) w w' → Still w0 w' := fun hm => h0.box hg hm
    by_cases h5 : op = [124, 124]
    · have hk : binK op = 5 := by unfold binK; rw [if_pos h5]
      rw [hk] at hr
      refine ⟨(5 : Int), hr.lget rfl, ?_⟩
      repeat refine bsel_of (fun h => absurd h (by decide)) (fun _ => ?_)
      refine bsel_of (fun _ => ?_) (fun h => absurd h (by decide))
      refine ⟨some ⟨c, 0, none⟩, 2, 2, by rw [add_row]; exact hr.lget rfl, by decide, by decide, some ⟨k1, 0, none⟩, by rw [add_row]; exact hc.lget rfl, slow.mono ?_⟩
      rintro e w1 ⟨h1, hm1⟩
      unfold EvPost
      simp only [ev]
      cases hev : ev x V with
      | bad j =>
        rw [hev] at h1
        exact .inr ⟨_, h1, rfl, hm1⟩
      | ok p =>
        rw [hev] at h1
        obtain ⟨rfl, hw1, hi, hl⟩ := h1
        simp only [andP]
        rw [if_pos h5]
        refine .inl ⟨_, rfl, bsel_of (fun h => ?_) (fun h => ?_)⟩
        · have hz : p.1 ≠ 0 := fun e => by rw [decide_eq_true e] at h; cases h
          rw [if_pos hz]
          refine (truth_spec true).mono ?_
          rintro _ w3 ⟨rfl, rfl⟩
          exact .inl ⟨_, rfl, ⟨rfl, hw1, (show I64 1 by decide), by simp only [szT]; omega⟩, hm1⟩
        · have hz : p.1 = 0 := nd h
          rw [if_neg (fun e => e hz)]
          have hr1 := hw.far hr (by decide) hm1
          have hc1 := hw.far hc (by decide) hm1
          refine ⟨some ⟨c, 0, none⟩, 2, 2, by rw [add_row]; exact hr1.lget rfl, by decide, by decide, some ⟨k2, 0, none⟩, by rw [add_row]; exact hc1.lget rfl, ?_⟩
          refine (eval_spec he hg y (st hm1) hok.2.2 (hw.tree hy hm1) hw1 (by omega)).mono ?_
          rintro e w2 ⟨h2, hm2⟩
          cases hev2 : ev y p.2 with
          | bad j =>
            rw [hev2] at h2
            exact .inr ⟨_, h2, rfl, mod_trans hm1 hm2⟩
          | ok q =>
            rw [hev2] at h2
            obtain ⟨rfl, hw2, hi2, hl2⟩ := h2
            refine .inl ⟨_, rfl, (truth_spec _).mono ?_⟩
            rintro _ w3 ⟨rfl, rfl⟩
            exact .inl ⟨_, rfl, ⟨rfl, hw2, truth_in _, by simp only [szT]; omega⟩, mod_trans hm1 hm2⟩
    by_cases h4 : op = [38, 38]
    · have hk : binK op = 4 := by unfold binK; rw [if_neg h5, if_pos h4]
      rw [hk] at hr
      refine ⟨(4 : Int), hr.lget rfl, ?_⟩
      repeat refine bsel_of (fun h => absurd h (by decide)) (fun _ => ?_)
      refine bsel_of (fun _ => ?_) (fun h => absurd h (by decide))
      refine ⟨some ⟨c, 0, none⟩, 2, 2, by rw [add_row]; exact hr.lget rfl, by decide, by decide, some ⟨k1, 0, none⟩, by rw [add_row]; exact hc.lget rfl, slow.mono ?_⟩
      rintro e w1 ⟨h1, hm1⟩
      unfold EvPost
      simp only [ev]
      cases hev : ev x V with
      | bad j =>
        rw [hev] at h1
        exact .inr ⟨_, h1, rfl, hm1⟩
      | ok p =>
        rw [hev] at h1
        obtain ⟨rfl, hw1, hi, hl⟩ := h1
        simp only [andP]
        rw [if_neg h5, if_pos h4]
        refine .inl ⟨_, rfl, bsel_of (fun h => ?_) (fun h => ?_)⟩
        rotate_left
        · have hz : p.1 = 0 := nd h
          rw [if_pos hz]
          refine (truth_spec false).mono ?_
          rintro _ w3 ⟨rfl, rfl⟩
          exact .inl ⟨_, rfl, ⟨rfl, hw1, (show I64 0 by decide), by simp only [szT]; omega⟩, hm1⟩
        · have hz : p.1 ≠ 0 := fun e => by rw [decide_eq_true e] at h; cases h
          rw [if_neg hz]
          have hr1 := hw.far hr (by decide) hm1
          have hc1 := hw.far hc (by decide) hm1
          refine ⟨some ⟨c, 0, none⟩, 2, 2, by rw [add_row]; exact hr1.lget rfl, by decide, by decide, some ⟨k2, 0, none⟩, by rw [add_row]; exact hc1.lget rfl, ?_⟩
          refine (eval_spec he hg y (st hm1) hok.2.2 (hw.tree hy hm1) hw1 (by omega)).mono ?_
          rintro e w2 ⟨h2, hm2⟩
          cases hev2 : ev y p.2 with
          | bad j =>
            rw [hev2] at h2
            exact .inr ⟨_, h2, rfl, mod_trans hm1 hm2⟩
          | ok q =>
            rw [hev2] at h2
            obtain ⟨rfl, hw2, hi2, hl2⟩ := h2
            refine .inl ⟨_, rfl, (truth_spec _).mono ?_⟩
            rintro _ w3 ⟨rfl, rfl⟩
            exact .inl ⟨_, rfl, ⟨rfl, hw2, truth_in _, by simp only [szT]; omega⟩, mod_trans hm1 hm2⟩
    · have hk : binK op = 3 := by unfold binK; rw [if_neg h5, if_neg h4]
      have hop : op ∈ binOps := (hok.1.resolve_left h5).resolve_left h4
      rw [hk] at hr
      refine ⟨(3 : Int), hr.lget rfl, ?_⟩
      repeat refine bsel_of (fun h => absurd h (by decide)) (fun _ => ?_)
      refine bsel_of (fun _ => ?_) (fun h => absurd h (by decide))
      refine ⟨some ⟨c, 0, none⟩, 2, 2, by rw [add_row]; exact hr.lget rfl, by decide, by decide, some ⟨k1, 0, none⟩, by rw [add_row]; exact hc.lget rfl, slow.mono ?_⟩
      rintro e w1 ⟨h1, hm1⟩
      unfold EvPost
      simp only [ev]
      cases hev : ev x V with
      | bad j =>
        rw [hev] at h1
        exact .inr ⟨_, h1, rfl, hm1⟩
      | ok p =>
        rw [hev] at h1
        obtain ⟨rfl, hw1, hi, hl⟩ := h1
        simp only [andP]
        rw [if_neg h5, if_neg h4]
        have hr1 := hw.far hr (by decide) hm1
        have hc1 := hw.far hc (by decide) hm1
        refine .inl ⟨_, rfl, fun wq => Row wq b 79 ⟨tcell 3 0 op [] (kids c 2)⟩ ∧ Row wq c 59 ⟨[kid k1, kid k2]⟩, ⟨hr1.drew, hc1.drew⟩, op, fun wq hq => by rw [add_row]; exact hq.1.lget rfl, some ⟨c, 0, none⟩, 2, 2, fun wq hq => by rw [add_row]; exact hq.1.lget rfl, by decide, by decide, some ⟨k2, 0, none⟩, fun wq hq => by rw [add_row]; exact hq.2.lget rfl, ?_⟩
        refine (eval_spec he hg y (st hm1).toDrew hok.2.2 ((hw.tree hy hm1).still (Still.refl _).toDrew) hw1.drew (by omega)).mono ?_
        rintro e w2 ⟨h2, hm2⟩
        have hmd := drew_mod hm2
        cases hev2 : ev y p.2 with
        | bad j =>
          rw [hev2] at h2
          exact .inr ⟨_, h2, rfl, mod_trans hm1 hmd⟩
        | ok q =>
          rw [hev2] at h2
          obtain ⟨rfl, hw2, hi2, hl2⟩ := h2
          refine .inl ⟨_, rfl, ⟨hw1.far hr1 (by decide) hmd, hw1.far hc1 (by decide) hmd⟩, (reckon_spec hop p.1 q.1).mono ?_⟩
          rintro e w3 ⟨ha, rfl⟩
          dsimp only
          cases hrk : reck op p.1 q.1 with
          | bad j =>
            rw [hrk] at ha
            exact .inr ⟨_, ha, rfl, mod_trans hm1 hmd⟩
          | ok z =>
            rw [hrk] at ha
            exact .inl ⟨_, ha, ⟨rfl, hw2, reck_in hi hi2 hrk, by simp only [szT]; omega⟩, mod_trans hm1 hmd⟩
  | .cho t x y, w, b, V, h0, hok, ⟨c, k0, k1, k2, hr, hc, htt, hx, hy⟩, hw, hn => by
    refine arith_world_eval_calls _ _ _ _ ?_
    simp only [szT] at hn
    have st : ∀ {w' : World}, Mod (fun k => k = g) w w' → Still w0 w' := fun hm => h0.box hg hm
    refine ⟨(6 : Int), hr.lget rfl, ?_⟩
    repeat refine bsel_of (fun h => absurd h (by decide)) (fun _ => ?_)
    refine bsel_of (fun _ => ?_) (fun h => absurd h (by decide))
    refine ⟨some ⟨c, 0, none⟩, 3, 3, by rw [add_row]; exact hr.lget rfl, by decide, by decide, some ⟨k0, 0, none⟩, by rw [add_row]; exact hc.lget rfl, (eval_spec he hg t h0 hok.1 htt hw (by omega)).mono ?_⟩
    rintro e w1 ⟨h1, hm1⟩
    unfold EvPost
    simp only [ev]
    cases hev : ev t V with
    | bad j =>
      rw [hev] at h1
      exact .inr ⟨_, h1, rfl, hm1⟩
    | ok p =>
      rw [hev] at h1
      obtain ⟨rfl, hw1, hi, hl⟩ := h1
      simp only [andP]
      have hr1 := hw.far hr (by decide) hm1
      have hc1 := hw.far hc (by decide) hm1
      refine .inl ⟨_, rfl, bsel_of (fun h => ?_) (fun h => ?_)⟩
      · have hz : p.1 ≠ 0 := fun e => by rw [decide_eq_true e] at h; cases h
        rw [if_pos hz]
        refine ⟨some ⟨c, 0, none⟩, 3, 3, by rw [add_row]; exact hr1.lget rfl, by decide, by decide, some ⟨k1, 0, none⟩, by rw [add_row]; exact hc1.lget rfl, ?_⟩
        refine (eval_spec he hg x (st hm1) hok.2.1 (hw.tree hx hm1) hw1 (by omega)).mono ?_
        rintro e w2 ⟨h2, hm2⟩
        cases hev2 : ev x p.2 with
        | bad j =>
          rw [hev2] at h2
          exact .inr ⟨_, h2, rfl, mod_trans hm1 hm2⟩
        | ok q =>
          rw [hev2] at h2
          obtain ⟨rfl, hw2, hi2, hl2⟩ := h2
          exact .inl ⟨_, rfl, ⟨rfl, hw2, hi2, by simp only [szT]; omega⟩, mod_trans hm1 hm2⟩
      · have hz : p.1 = 0 := nd h
        rw [if_neg (fun e => e hz)]
        refine ⟨some ⟨c, 0, none⟩, 3, 3, by rw [add_row]; exact hr1.lget rfl, by decide, by decide, some ⟨k2, 0, none⟩, by rw [add_row]; exact hc1.lget rfl, ?_⟩
        refine (eval_spec he hg y (st hm1) hok.2.2 (hw.tree hy hm1) hw1 (by omega)).mono ?_
        rintro e w2 ⟨h2, hm2⟩
        cases hev2 : ev y p.2 with
        | bad j =>
          rw [hev2] at h2
          exact .inr ⟨_, h2, rfl, mod_trans hm1 hm2⟩
        | ok q =>
          rw [hev2] at h2
          obtain ⟨rfl, hw2, hi2, hl2⟩ := h2
          exact .inl ⟨_, rfl, ⟨rfl, hw2, hi2, by simp only [szT]; omega⟩, mod_trans hm1 hm2⟩
  | .set x op t, w, b, V, h0, hok, ⟨c, k, hr, hc, ht⟩, hw, hn => by
    refine arith_world_eval_calls _ _ _ _ ?_
    simp only [szT] at hn
    refine ⟨(7 : Int), hr.lget rfl, ?_⟩
    repeat refine bsel_of (fun h => absurd h (by decide)) (fun _ => ?_)
    refine bsel_of (fun _ => ?_) (fun h => absurd h (by decide))
    refine ⟨some ⟨c, 0, none⟩, 1, 1, by rw [add_row]; exact hr.lget rfl, by decide, by decide, some ⟨k, 0, none⟩, by rw [add_row]; exact hc.lget rfl, (eval_spec he hg t h0 hok.2.2 ht hw (by omega)).mono ?_⟩
    rintro e w1 ⟨h1, hm1⟩
    unfold EvPost
    simp only [ev]
    cases hev : ev t V with
    | bad j =>
      rw [hev] at h1
      exact .inr ⟨_, h1, rfl, hm1⟩
    | ok p =>
      rw [hev] at h1
      obtain ⟨rfl, hw1, hi, hl⟩ := h1
      simp only [andP]
      have hr1 := hw.far hr (by decide) hm1
      have st : ∀ {w' : World}, Mod (fun k => k = g) w w' → Still w0 w' := fun hm => h0.box hg hm
      have fin : ∀ {w3 : World} {z : Int}, Mod (fun k => k = g) w w3 → WS w3 g p.2 → I64 z → Calls Tryz.prog fn_arith_world_set #[.pointer (some ⟨g, 0, none⟩), .string (S x), .int .i64 z] w3 (fun ed w4 => match setW p.2 x z with
          | .ok q => ed = .returned (.tuple #[]) ∧ q.1 = z ∧ WS w4 g q.2 ∧ q.2.length ≤ V.length + szT (.set x op t) ∧ Mod (fun k => k = g) w w4
          | .bad j => ed = .panicked (errP j) ∧ Mod (fun k => k = g) w w4) := by
        intro w3 z hm3 hw3 hz
        refine (wset_spec (he.still (st hm3)) hw3 (by omega) x (by omega) z hz (fun y _ => setR_rise hw3.rise x y)).mono ?_
        rintro ed w4 ⟨h4, hm4⟩
        have hlen := setR_len p.2 x (Lib.itoa z)
        unfold setW at h4 ⊢
        split at h4
        · rename_i q hq
          split at hq
          · rename_i h0
            rw [if_pos h0]
            injection hq with hq
            subst hq
            exact ⟨h4.1, rfl, h4.2, by simp only [szT]; omega, mod_trans hm3 hm4⟩
          · cases hq
        · rename_i j hq
          split at hq
          · cases hq
          · rename_i h0
            rw [if_neg h0]
            injection hq with hq
            subst hq
            exact ⟨h4, mod_trans hm3 hm4⟩
      refine .inl ⟨_, rfl, op, by rw [add_row]; exact hr1.lget rfl, bsel_of (fun h => ?_) (fun h => ?_)⟩
      · have hop : op ≠ [] := fun e => by rw [decide_eq_true e] at h; cases h
        rw [if_neg hop]
        refine ⟨fun wq => Row wq b 79 ⟨tcell 7 0 op x (kids c 1)⟩, hr1.drew, op, fun wq hq => by rw [add_row]; exact hq.lget rfl, x, fun wq hq => by rw [add_row]; exact hq.lget rfl, ?_⟩
        refine (wget_spec (he.still (st hm1).toDrew) hw1.drew (by omega) x).mono ?_
        rintro e w2 ⟨ha, hs2⟩
        have hs2' := (Still.refl w1).toDrew.trans hs2
        have hm2 := mod_still hm1 hs2'
        cases hgw : getW x p.2 with
        | bad j =>
          rw [hgw] at ha
          exact .inr ⟨_, ha, rfl, hm2⟩
        | ok m =>
          rw [hgw] at ha
          have hr2 := hr1.still hs2'
          refine .inl ⟨m, ha, hr2, (reckon_spec (hok.1.resolve_left hop) m p.1).mono ?_⟩
          rintro e w3 ⟨ha2, rfl⟩
          dsimp only
          cases hrk : reck op m p.1 with
          | bad j =>
            rw [hrk] at ha2
            exact .inr ⟨_, ha2, rfl, hm2⟩
          | ok z =>
            rw [hrk] at ha2
            have hiz : I64 z := reck_in (getW_in hgw) hi hrk
            refine .inl ⟨z, ha2, x, by rw [add_row]; exact hr2.lget rfl, (fin hm2 (hw1.still hs2') hiz).mono ?_⟩
            intro ed w4 h4
            dsimp only
            cases hsw : setW p.2 x z with
            | bad j =>
              rw [hsw] at h4
              exact .inr ⟨_, h4.1, rfl, h4.2⟩
            | ok q =>
              rw [hsw] at h4
              obtain ⟨h5, rfl, h6, h7, h8⟩ := h4
              exact .inl ⟨h5, ⟨rfl, h6, hiz, h7⟩, h8⟩
      · have hop : op = [] := nd h
        rw [if_pos hop]
        refine ⟨x, by rw [add_row]; exact hr1.lget rfl, (fin hm1 hw1 hi).mono ?_⟩
        intro ed w4 h4
        dsimp only
        cases hsw : setW p.2 x p.1 with
        | bad j =>
          rw [hsw] at h4
          exact .inr ⟨_, h4.1, rfl, h4.2⟩
        | ok q =>
          rw [hsw] at h4
          obtain ⟨h5, h9, h6, h7, h8⟩ := h4
          exact .inl ⟨h5, ⟨by rw [h9], h6, by rw [h9]; exact hi, h7⟩, h8⟩
end Go.Proofs.YtgincpkggnndeaaGreatDoor
