/- Expressions of numbers: the reference's state. Conditions: as each theorem names them. -/
import Derived.Test.YtgincpkggnndeaaGreatDoorArParse3
namespace Go.Proofs.YtgincpkggnndeaaGreatDoor
open Go.RowKit Vc
variable {w : World}

abbrev SRow (w : World) (g : Nat) (s : Txt) (v : Value) (e : Int) : Prop := Row w g 69 ⟨[.string (S s), v, .int .i64 e]⟩
theorem textLen_s {w : World} {g : Nat} {s : Txt} {v : Value} {e : Int} (h : SRow w g s v e) : textLen g w = s.length := by
  have hc : w.cell? ⟨g, 0, none⟩ = some (.string (S s)) := h.lget rfl
  unfold textLen
  rw [hc]
  rfl
theorem space_spec {g : Nat} {s : Txt} {v : Value} {e : Int} (h : SRow w g s v e) (_hv : v.oneCell' = true) :
    Calls Tryz.prog fn_ref13_state_space #[.pointer (some ⟨g, 0, none⟩)] w (fun r w' => r = .returned (.tuple #[]) ∧ SRow w' g (trim s) v e ∧ Mod (fun k => k = g) w w') := by
  refine ref13_state_space_calls _ _ _ ?_
  refine ⟨fun w1 => ∃ u, SRow w1 g u v e ∧ trim u = trim s ∧ Mod (fun k => k = g) w w1, fun w1 => textLen g w1, ⟨s, h, rfl, Mod.refl _ _⟩, ?_⟩
  rintro _ w1 ⟨u, hu, ht, hm⟩
  refine ⟨u, hu.lget rfl, bsel_of (fun hx => ?_) (fun hx => ?_)⟩
  · cases u with
    | nil => exact absurd (of_decide_eq_true hx) (by simp)
    | cons c u =>
    have go : ∀ {w2 : World}, blank3 c = true → SRow w2 g ((c :: u).drop (Int.toNat 1)) v e → Mod (fun k => k = g) w1 w2 → (∃ u, SRow w2 g u v e ∧ trim u = trim s ∧ Mod (fun k => k = g) w w2) ∧ textLen g w2 < textLen g w1 := by
      intro w2 hb h2 hm2
      have h2 : SRow w2 g u v e := h2
      refine ⟨⟨u, h2, ?_, mod_trans hm hm2⟩, by rw [textLen_s h2, textLen_s hu]; simp⟩
      rw [← ht]
      unfold trim
      rw [List.dropWhile_cons, if_pos hb]
    refine ⟨_, hu.lget rfl, by decide, c, rfl, bsel_of (fun h1 => ?_) (fun h1 => ?_)⟩
    · have h1 : c = 32 := (byte_eq (b := 32)).1 (of_decide_eq_true h1)
      exact ⟨_, hu.lget rfl, by decide, by simp only [List.length_cons]; omega, stK hu (by simp) (by simp [Value.oneCell']) fun w2 h2 hm2 _ => go (by rw [h1]; rfl) h2 hm2⟩
    refine ⟨_, hu.lget rfl, by decide, c, rfl, bsel_of (fun h2 => ?_) (fun h2 => ?_)⟩
    · have h2 : c = 9 := (byte_eq (b := 9)).1 (of_decide_eq_true h2)
      exact ⟨_, hu.lget rfl, by decide, by simp only [List.length_cons]; omega, stK hu (by simp) (by simp [Value.oneCell']) fun w2 h3 hm2 _ => go (by rw [h2]; rfl) h3 hm2⟩
    refine ⟨_, hu.lget rfl, by decide, c, rfl, bsel_of (fun h3 => ?_) (fun h3 => ?_)⟩
    · have h3 : c = 10 := (byte_eq (b := 10)).1 (of_decide_eq_true h3)
      exact ⟨_, hu.lget rfl, by decide, by simp only [List.length_cons]; omega, stK hu (by simp) (by simp [Value.oneCell']) fun w2 h4 hm2 _ => go (by rw [h3]; rfl) h4 hm2⟩
    · have n1 : ¬ c = 32 := fun e => of_decide_eq_false h1 ((byte_eq (b := 32)).2 e)
      have n2 : ¬ c = 9 := fun e => of_decide_eq_false h2 ((byte_eq (b := 9)).2 e)
      have n3 : ¬ c = 10 := fun e => of_decide_eq_false h3 ((byte_eq (b := 10)).2 e)
      have et : trim (c :: u) = c :: u := by
        unfold trim
        rw [List.dropWhile_cons, if_neg (by simp [blank3, n1, n2, n3])]
      rw [← ht, et]
      exact ⟨rfl, hu, hm⟩
  · have hx : u = [] := by have := of_decide_eq_false hx; exact List.eq_nil_of_length_eq_zero (by omega)
    rw [← ht, hx]
    rw [hx] at hu
    exact ⟨rfl, hu, hm⟩
theorem prefix_take (s o : Txt) : (o.length ≤ s.length ∧ s.take o.length = o) ↔ o.isPrefixOf s = true := by
  rw [List.isPrefixOf_iff_prefix]
  constructor
  · rintro ⟨_, h⟩
    refine ⟨s.drop o.length, ?_⟩
    have := List.take_append_drop o.length s
    rwa [h] at this
  · rintro ⟨t, rfl⟩
    simp
theorem rop_spec {g : Nat} {s : Txt} {v : Value} {e : Int} (h : SRow w g s v e) (hv : v.oneCell' = true) :
    Calls Tryz.prog fn_ref13_state_op #[.pointer (some ⟨g, 0, none⟩)] w (fun r w' => r = .returned (.string (S (opAt s))) ∧ SRow w' g (trim s) v e ∧ Mod (fun k => k = g) w w') := by
  refine ref13_state_op_calls _ _ _ ?_
  refine (space_spec h hv).mono ?_
  rintro _ w1 ⟨rfl, h1, hm1⟩
  refine .inl ⟨rfl, allocK fun w2 r2 s2 _ => ?_⟩
  have hl : StrsAt w2 (some ⟨w1.heap.size, 0, none⟩) 30 allOps := StrsAt.row (l := allOps) r2
  refine ⟨fun x w4 => ∃ i : Nat, x = (i : Int) ∧ i ≤ 30 ∧ opAt s = ((allOps.drop i).find? (fun o => o.isPrefixOf (trim s))).getD [] ∧ Still w2 w4, fun x _ => 30 - x.toNat, ⟨0, rfl, Nat.zero_le _, rfl, Still.refl _⟩, ?_⟩
  rintro _ _ w4 ⟨i, rfl, hi, ho, hs4⟩
  have h4 : SRow w4 g (trim s) v e := (h1.still s2).still hs4
  have hm4 : Mod (fun k => k = g) w w4 := mod_still hm1 (s2.trans hs4)
  refine bsel_of (fun hx => ?_) (fun hx => ?_)
  · have hx : i < 30 := by have := of_decide_eq_true hx; omega
    have e1 : IntKind.i64.wrap ((i : Int) + 1) = ((i + 1 : Nat) : Int) := by rw [wrap_i64 (by omega) (by omega)]; omega
    obtain ⟨a, ha, hc⟩ := (hl.still hs4).get hx
    injection ha with ha
    subst ha
    have hil : i < allOps.length := hx
    rw [List.drop_eq_getElem_cons hil, List.find?_cons] at ho
    have hpt := prefix_take (trim s) (allOps[i]'hil)
    have hcc : w4.cell? ((Addr.mk w1.heap.size 0 none).add (Int.toNat (i : Int) * 1)) = some (.string (S (allOps[i]'hil))) := by rw [Int.toNat_natCast, Nat.mul_one]; exact hc
    have nxt : (allOps[i]'hil).isPrefixOf (trim s) = false → (∃ j : Nat, IntKind.i64.wrap ((i : Int) + 1) = (j : Int) ∧ j ≤ 30 ∧ opAt s = ((allOps.drop j).find? (fun o => o.isPrefixOf (trim s))).getD [] ∧ Still w2 w4.drew) ∧ 30 - (IntKind.i64.wrap ((i : Int) + 1)).toNat < 30 - (i : Int).toNat := by
      intro hp
      rw [hp] at ho
      rw [e1]
      exact ⟨⟨i + 1, rfl, hx, ho, hs4.toDrew⟩, by omega⟩
    refine ⟨by omega, by omega, _, hcc, _, h4.lget rfl, bsel_of (fun hle => ?_) (fun hle => ?_)⟩
    · have hle := of_decide_eq_true hle
      refine ⟨_, h4.lget rfl, by omega, by omega, _, hcc, by omega, by omega, by omega, by omega, _, hcc, ?_⟩
      rw [Int.toNat_natCast]
      refine bsel_of (fun he => ?_) (fun he => ?_)
      · have hp := hpt.1 ⟨by omega, of_decide_eq_true he⟩
        rw [hp] at ho
        refine ⟨by omega, by omega, _, hcc, ?_, h4.drew, hm4.drew⟩
        rw [ho]
        rfl
      · refine nxt ?_
        cases hp : (allOps[i]'hil).isPrefixOf (trim s) with
        | false => rfl
        | true => exact absurd (hpt.2 hp).2 (of_decide_eq_false he)
    · refine nxt ?_
      cases hp : (allOps[i]'hil).isPrefixOf (trim s) with
      | false => rfl
      | true => exact absurd (hpt.2 hp).1 (by have := of_decide_eq_false hle; omega)
  · have hx : i = 30 := by have := of_decide_eq_false hx; omega
    rw [hx, List.drop_of_length_le (by decide)] at ho
    rw [ho]
    exact ⟨rfl, h4, hm4⟩
theorem rtake_spec {g : Nat} {s : Txt} {v : Value} {e : Int} (h : SRow w g s v e) (hv : v.oneCell' = true) (o : Txt) (ho : o ≠ []) :
    Calls Tryz.prog fn_ref13_state_take #[.pointer (some ⟨g, 0, none⟩), .string (S o)] w (fun r w' => r = .returned (.bool (decide (opAt s = o))) ∧ SRow w' g (if opAt s = o then aft s else trim s) v e ∧ Mod (fun k => k = g) w w') := by
  refine ref13_state_take_calls _ _ _ _ ?_
  refine (rop_spec h hv).mono ?_
  rintro _ w1 ⟨rfl, h1, hm1⟩
  refine .inl ⟨_, rfl, bsel_of (fun hx => ?_) (fun hx => ?_)⟩
  · have hx := of_decide_eq_true hx
    have hpre := (opAt_mem (s := s) (by rw [hx]; exact ho)).2
    rw [List.isPrefixOf_iff_prefix] at hpre
    have hle := hpre.length_le
    rw [hx] at hle
    refine ⟨_, h1.lget rfl, by omega, by omega, stK h1 (by simp) (by simp [Value.oneCell']) fun w2 h2 hm2 _ => ⟨rfl, ?_, mod_trans hm1 hm2⟩⟩
    rw [if_pos hx]
    unfold aft
    rw [hx]
    rw [Int.toNat_natCast] at h2
    exact h2
  · have hx := of_decide_eq_false hx
    rw [if_neg hx]
    exact ⟨rfl, h1, hm1⟩
theorem fail_spec {g : Nat} {s : Txt} {v : Value} {e : Int} (h : SRow w g s v e) (k : Int) :
    Calls Tryz.prog fn_ref13_state_fail #[.pointer (some ⟨g, 0, none⟩), .int .i64 k] w (fun r w' => r = .returned (.tuple #[]) ∧ SRow w' g s v (if e = 0 then k else e) ∧ Mod (fun k => k = g) w w') := by
  refine ref13_state_fail_calls _ _ _ _ ?_
  refine ⟨_, by rw [add_row]; exact h.lget rfl, bsel_of (fun hx => ?_) (fun hx => ?_)⟩
  · rw [if_pos (of_decide_eq_true hx)]
    show stCells (Addr.add _ 2) _ _ _ _
    rw [add_row]
    exact stK h (by simp) (by simp [Value.oneCell']) fun w2 h2 hm2 _ => ⟨rfl, h2, hm2⟩
  · rw [if_neg (of_decide_eq_false hx)]
    exact ⟨rfl, h, Mod.refl _ _⟩
end Go.Proofs.YtgincpkggnndeaaGreatDoor
