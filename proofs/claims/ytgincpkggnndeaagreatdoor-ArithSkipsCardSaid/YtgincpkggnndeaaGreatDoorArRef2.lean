/- Expressions of numbers: the reference's levels and numbers. Conditions: as each theorem names them. -/
import Derived.Test.YtgincpkggnndeaaGreatDoorArRef
namespace Go.Proofs.YtgincpkggnndeaaGreatDoor
open Go.RowKit Vc
variable {w : World}

theorem rtruth_spec (b : Bool) : Calls Tryz.prog fn_ref13_truth #[.bool b] w (fun e w' => e = .returned (.int .i64 (truthI b)) ∧ w' = w) := by
  refine ref13_truth_calls _ _ _ ?_
  cases b
  · exact ⟨rfl, rfl⟩
  · exact ⟨rfl, rfl⟩
theorem r13digit_spec (c : UInt8) : Calls Tryz.prog fn_ref13_digit #[.int .u8 (c.toNat : Int)] w (fun e w' => e = .returned (.int .i64 (digR c : Int)) ∧ w' = w) := by
  refine ref13_digit_calls _ _ _ ?_
  have hc := c.toNat_lt
  unfold digR
  repeat' first
    | refine bsel_of (fun h => ?_) (fun h => ?_)
  all_goals
    simp only [decide_eq_true_eq, decide_eq_false_iff_not] at *
    refine ⟨?_, by trivial⟩
    first
      | (exfalso; omega)
      | (rw [if_pos (by omega), wrap_i64 (n := (c.toNat : Int)) (by omega) (by omega), wrap_i64 (by omega) (by omega)]
         congr 2
         omega)
      | (rw [if_neg (by omega), if_pos (by omega), wrap_i64 (n := (c.toNat : Int)) (by omega) (by omega), wrap_i64 (by omega) (by omega)]
         congr 2
         omega)
      | (rw [if_neg (by omega), if_neg (by omega), if_pos (by omega), wrap_i64 (n := (c.toNat : Int)) (by omega) (by omega), wrap_i64 (by omega) (by omega)]
         congr 2
         omega)
      | (rw [if_neg (by omega), if_neg (by omega), if_neg (by omega)]
         rfl)
theorem level_spec (o : Txt) : Calls Tryz.prog fn_ref13_level #[.string (S o)] w (fun e w' => e = .returned (.int .i64 (lvl o : Int)) ∧ w' = w) := by
  refine ref13_level_calls _ _ _ ?_
  refine ⟨fun w4 => w4 = w ∧ lvl o = 0, ?_, ?_⟩
  rotate_left
  · rintro _ w4 ⟨rfl, h⟩
    rw [h]
    exact ⟨rfl, rfl⟩
  refine bsel_of (fun h => by rw [of_decide_eq_true h]; exact ⟨rfl, rfl⟩) (fun h1 => ?_)
  refine bsel_of (fun h => by rw [of_decide_eq_true h]; exact ⟨rfl, rfl⟩) (fun h2 => ?_)
  refine bsel_of (fun h => by rw [of_decide_eq_true h]; exact ⟨rfl, rfl⟩) (fun h3 => ?_)
  refine bsel_of (fun h => by rw [of_decide_eq_true h]; exact ⟨rfl, rfl⟩) (fun h4 => ?_)
  refine bsel_of (fun h => by rw [of_decide_eq_true h]; exact ⟨rfl, rfl⟩) (fun h5 => ?_)
  refine ⟨fun x w1 => w1 = w ∧ x = decide (o = [61, 61] ∨ o = [33, 61]), ?_, ?_⟩
  · refine bsel_of (fun h => ⟨rfl, ?_⟩) (fun h => ⟨rfl, ?_⟩)
    · rw [h, decide_eq_true (.inl (of_decide_eq_true h))]
    · exact decide_eq_decide.2 ⟨.inr, fun e => e.resolve_left (of_decide_eq_false h)⟩
  rintro _ _ w1 ⟨rfl, rfl⟩
  refine bsel_of (fun h => by rcases of_decide_eq_true h with h | h <;> (rw [h]; exact ⟨rfl, rfl⟩)) (fun h6 => ?_)
  refine ⟨fun x w2 => w2 = w1 ∧ x = decide (o = [60] ∨ o = [60, 61] ∨ o = [62] ∨ o = [62, 61]), ?_, ?_⟩
  · refine bsel_of (fun h => ⟨rfl, ?_⟩) (fun h => bsel_of (fun h' => ⟨rfl, ?_⟩) (fun h' => bsel_of (fun h'' => ⟨rfl, ?_⟩) (fun h'' => ⟨rfl, ?_⟩)))
    · rw [h, decide_eq_true (.inl (of_decide_eq_true h))]
    · rw [h', decide_eq_true (.inr (.inl (of_decide_eq_true h')))]
    · rw [h'', decide_eq_true (.inr (.inr (.inl (of_decide_eq_true h''))))]
    · exact decide_eq_decide.2 ⟨fun e => .inr (.inr (.inr e)), fun e => ((e.resolve_left (of_decide_eq_false h)).resolve_left (of_decide_eq_false h')).resolve_left (of_decide_eq_false h'')⟩
  rintro _ _ w2 ⟨rfl, rfl⟩
  refine bsel_of (fun h => by rcases of_decide_eq_true h with h | h | h | h <;> (rw [h]; exact ⟨rfl, rfl⟩)) (fun h7 => ?_)
  refine ⟨fun x w3 => w3 = w2 ∧ x = decide (o = [60, 60] ∨ o = [62, 62]), ?_, ?_⟩
  · refine bsel_of (fun h => ⟨rfl, ?_⟩) (fun h => ⟨rfl, ?_⟩)
    · rw [h, decide_eq_true (.inl (of_decide_eq_true h))]
    · exact decide_eq_decide.2 ⟨.inr, fun e => e.resolve_left (of_decide_eq_false h)⟩
  rintro _ _ w3 ⟨rfl, rfl⟩
  refine bsel_of (fun h => by rcases of_decide_eq_true h with h | h <;> (rw [h]; exact ⟨rfl, rfl⟩)) (fun h8 => ?_)
  simp only [decide_eq_false_iff_not, not_or] at h1 h2 h3 h4 h5 h6 h7 h8
  repeat' first
    | exact ⟨by rw [of_decide_eq_true ‹decide (o = [43]) = true›]; rfl, rfl⟩
    | refine bsel_of (fun h => ?_) (fun h => ?_)
  all_goals
    simp only [decide_eq_true_eq, decide_eq_false_iff_not] at *
    first
      | (subst_vars; exact ⟨rfl, rfl⟩)
      | (subst_vars; simp at *; done)
      | (simp_all [lvl]; done)
theorem rnumber_spec (s : Txt) (hs : s.length ≤ 140737488355328) : Calls Tryz.prog fn_ref13_Number #[.string (S s)] w (fun e w' => (∃ (m : Int) (ok : Bool), e = .returned (.tuple #[.int .i64 m, .bool ok]) ∧ I64 m ∧ 0 ≤ m ∧ (match numV s with
    | some n => m = n ∧ ok = true
    | none => ok = false)) ∧ w' = w) := by
  refine ref13_Number_calls _ _ _ ?_
  have hbc := baseOf_cases s
  refine ⟨fun s1 b w3 => w3 = w ∧ s1 = (baseOf s).2 ∧ b = ((baseOf s).1 : Int), ⟨fun q w1 => w1 = w ∧ (q = true ↔ (2 < s.length ∧ (s.take 2 = [48, 120] ∨ s.take 2 = [48, 88]))), ?_, ?_⟩, ?_⟩
  · refine bsel_of (fun h => ?_) (fun h => ⟨rfl, (fun e => by cases e), fun e => by have := of_decide_eq_false h; omega⟩)
    have h : 2 < s.length := by have := of_decide_eq_true h; omega
    match s, h with
    | a :: b :: c :: r, h =>
      refine ⟨by decide, a, rfl, bsel_of (fun h1 => ?_) (fun h1 => ?_)⟩
      · have h1 : a = 48 := (byte_eq (b := 48)).1 (of_decide_eq_true h1)
        refine ⟨by decide, b, rfl, bsel_of (fun h2 => ?_) (fun h2 => ⟨by decide, b, rfl, rfl, ?_⟩)⟩
        · have h2 : b = 120 := (byte_eq (b := 120)).1 (of_decide_eq_true h2)
          exact ⟨rfl, fun _ => ⟨h, .inl (by simp [h1, h2])⟩, fun _ => rfl⟩
        · have h2 : ¬ b = 120 := fun e => of_decide_eq_false h2 ((byte_eq (b := 120)).2 e)
          rw [decide_eq_true_eq]
          constructor
          · intro e
            have e : b = 88 := (byte_eq (b := 88)).1 e
            exact ⟨h, .inr (by simp [h1, e])⟩
          · rintro ⟨_, e | e⟩
            · simp at e
              exact absurd e.2 h2
            · simp at e
              exact (byte_eq (b := 88)).2 e.2
      · have h1 : ¬ a = 48 := fun e => of_decide_eq_false h1 ((byte_eq (b := 48)).2 e)
        refine ⟨rfl, (fun e => by cases e), ?_⟩
        rintro ⟨_, e | e⟩ <;> (simp at e; exact absurd e.1 h1)
  · rintro q _ w1 ⟨rfl, hq⟩
    refine bsel_of (fun h => ?_) (fun h => ?_)
    · have hc := hq.1 h
      rw [if_pos hc] at hbc
      rw [hbc]
      exact ⟨by decide, by omega, rfl, rfl, rfl⟩
    · have hc : ¬ (2 < s.length ∧ (s.take 2 = [48, 120] ∨ s.take 2 = [48, 88])) := fun e => by rw [hq.2 e] at h; cases h
      rw [if_neg hc] at hbc
      refine ⟨fun q w2 => w2 = w1 ∧ (q = true ↔ (1 < s.length ∧ s[0]? = some 48)), ?_, ?_⟩
      · refine bsel_of (fun h => ?_) (fun h => ?_)
        · have h : 1 < s.length := by have := of_decide_eq_true h; omega
          have h0 := getD_some (p := s) (i := 0) (by omega)
          refine ⟨by decide, s[0], h0, rfl, ?_⟩
          rw [decide_eq_true_eq, h0]
          exact ⟨fun e => ⟨h, congrArg some ((byte_eq (b := 48)).1 e)⟩, fun e => (byte_eq (b := 48)).2 (Option.some.inj e.2)⟩
        · exact ⟨rfl, (fun e => by cases e), fun e => by have := of_decide_eq_false h; omega⟩
      · rintro q _ w2 ⟨rfl, hq2⟩
        refine bsel_of (fun h => ?_) (fun h => ?_)
        · rw [if_pos (hq2.1 h)] at hbc
          rw [hbc]
          exact ⟨rfl, rfl, rfl⟩
        · rw [if_neg (fun e => by rw [hq2.2 e] at h; cases h)] at hbc
          rw [hbc]
          exact ⟨rfl, rfl, rfl⟩
  rintro _ _ _ w3 ⟨rfl, rfl, rfl⟩
  have hb := base_in s
  have hdl : (baseOf s).2.length ≤ s.length := by
    rw [hbc]
    split
    · rw [List.length_drop]; omega
    · split <;> exact Nat.le_refl _
  rw [numV_eq]
  unfold numR13
  generalize (baseOf s).1 = b at *
  generalize (baseOf s).2 = ds at *
  clear hbc
  have big : (9223372036854775807 : Int) = ((9223372036854775807 : Nat) : Int) := rfl
  refine ⟨fun n i w4 => ∃ k m : Nat, n = (m : Int) ∧ i = (k : Int) ∧ k ≤ ds.length ∧ m ≤ 9223372036854775807 ∧ numS b ds 0 = numS b (ds.drop k) m ∧ w4 = w3, fun _ i _ => ds.length - i.toNat, ⟨0, 0, rfl, rfl, Nat.zero_le _, by decide, rfl, rfl⟩, ?_⟩
  rintro _ _ _ w4 ⟨k, m, rfl, rfl, hk, hm, hn, rfl⟩
  refine bsel_of (fun hx => ?_) (fun hx => ?_)
  · have hx : k < ds.length := by have := of_decide_eq_true hx; omega
    have hne : ds ≠ [] := fun e => by rw [e] at hx; simp at hx
    have e1 : IntKind.i64.wrap ((k : Int) + 1) = ((k + 1 : Nat) : Int) := by rw [wrap_i64 (by omega) (by omega)]; omega
    rw [List.drop_eq_getElem_cons hx] at hn
    have hsk := getD_some hx
    generalize ds[k] = c at *
    simp only [numS] at hn
    refine ⟨by omega, c, by rw [Int.toNat_natCast]; exact hsk, (r13digit_spec c).mono ?_⟩
    rintro _ w5 ⟨rfl, rfl⟩
    have hd99 : digR c ≤ 99 := by unfold digR; have := c.toNat_lt; repeat' split
                                  all_goals omega
    generalize digR c = d at *
    have bad : (b ≤ d ∨ (9223372036854775807 - d) / b < m) → (∃ (m : Int) (ok : Bool), (Ending.returned (.tuple #[.int .i64 0, .bool false])) = .returned (.tuple #[.int .i64 m, .bool ok]) ∧ I64 m ∧ 0 ≤ m ∧ (match (if ds = [] then none else numS b ds 0).map fun n => (n : Int) with
        | some n => m = n ∧ ok = true
        | none => ok = false)) ∧ w5 = w5 := by
      intro hc
      rw [if_pos hc] at hn
      rw [if_neg hne, hn]
      exact ⟨⟨_, _, rfl, by decide, by decide, rfl⟩, rfl⟩
    refine .inl ⟨_, rfl, bsel_of (fun h => bad (.inl (by have := of_decide_eq_true h; omega))) (fun h => ?_)⟩
    have h : ¬ b ≤ d := by have := of_decide_eq_false h; omega
    have ew : IntKind.i64.wrap (9223372036854775807 - (d : Int)) = ((9223372036854775807 - d : Nat) : Int) := by rw [wrap_i64 (by omega) (by omega)]; omega
    have hdl2 : (9223372036854775807 - d) / b ≤ 9223372036854775807 := Nat.le_trans (Nat.div_le_self _ _) (by omega)
    have ed : IntKind.i64.wrap (Int.tdiv (IntKind.i64.wrap (9223372036854775807 - (d : Int))) (b : Int)) = (((9223372036854775807 - d) / b : Nat) : Int) := by
      rw [ew, ← Int.ofNat_tdiv]
      exact wrap_i64 (Int.le_trans (by decide) (Int.natCast_nonneg _)) (Int.lt_of_le_of_lt (Int.ofNat_le.2 hdl2) (by decide))
    rw [ed]
    refine ⟨by omega, bsel_of (fun h2 => bad (.inr (Int.ofNat_lt.1 (of_decide_eq_true h2)))) (fun h2 => ?_)⟩
    have h2 : ¬ (9223372036854775807 - d) / b < m := fun x => of_decide_eq_false h2 (Int.ofNat_lt.2 x)
    rw [if_neg (fun e => e.elim h h2)] at hn
    have h3 : ¬ 9223372036854775807 - d < m * b := fun x => h2 ((Nat.div_lt_iff_lt_mul (by omega)).2 x)
    have em : IntKind.i64.wrap ((m : Int) * (b : Int)) = ((m * b : Nat) : Int) := by
      have : ((m : Int) * (b : Int)) = ((m * b : Nat) : Int) := by push_cast; rfl
      rw [this]
      exact wrap_i64 (by omega) (by omega)
    have em2 : IntKind.i64.wrap (((m * b : Nat) : Int) + (d : Int)) = ((m * b + d : Nat) : Int) := by rw [wrap_i64 (by omega) (by omega)]; omega
    rw [em, em2, e1]
    exact ⟨⟨k + 1, m * b + d, rfl, rfl, hx, by omega, hn, rfl⟩, by dsimp only; omega⟩
  · have hx : k = ds.length := by have := of_decide_eq_false hx; omega
    rw [hx, List.drop_length] at hn
    refine ⟨⟨_, _, rfl, ⟨by omega, by omega⟩, by omega, ?_⟩, rfl⟩
    by_cases he : ds = []
    · rw [if_pos he, decide_eq_true he]
      rfl
    · rw [if_neg he, hn, decide_eq_false he]
      exact ⟨rfl, rfl⟩
end Go.Proofs.YtgincpkggnndeaaGreatDoor
