/- strconv: ParseInt, Atoi. -/
import Derived.Test.YtgincpkggnndeaaGreatDoorConv
namespace Go.Proofs.YtgincpkggnndeaaGreatDoor
open Go.RowKit Vc
variable {w : World}

theorem two63 {z : Int} (hz : z = 64) : IntKind.u64.wrap (1 * 2 ^ (min (Int.toNat (IntKind.u64.wrap (IntKind.i64.wrap (z - 1)))) (IntKind.u64.bits))) = 9223372036854775808 := by subst hz; decide
theorem neg_wrap {m : Nat} (h : ¬ 9223372036854775808 < m) : IntKind.i64.wrap (0 - IntKind.i64.wrap (m : Int)) = -(m : Int) := by
  simp only [IntKind.wrap, IntKind.signed, IntKind.bits]
  simp
  omega
set_option maxRecDepth 20000 in
theorem parseInt_spec (b : Nat) (hb : b = 8 ∨ b = 10 ∨ b = 16) (z : Int) (hz : z = 0 ∨ z = 64) (s : Txt) (hs : s.length ≤ 140737488355328) :
    Calls Tryz.prog fn_internal_strconv_ParseInt #[.string (S s), .int .i64 (b : Int), .int .i64 z] w (fun e w' => (∃ x y, e = .returned (.tuple #[x, y]) ∧ Read (parseI b s) x y) ∧ Still w w') := by
  refine internal_strconv_ParseInt_calls _ _ _ _ _ ?_
  refine bsel_of (fun h => ?_) (fun h => ?_)
  · have h := of_decide_eq_true h
    subst h
    exact ⟨⟨_, _, rfl, ⟨_, rfl, by decide, by decide⟩, rfl⟩, Still.refl _⟩
  have h0 : s ≠ [] := of_decide_eq_false h
  refine ⟨fun s1 neg w1 => w1 = w ∧ parseI b s = signed neg (parseU b s1) ∧ s1.length ≤ 140737488355328, ?_, ?_⟩
  · cases s with
    | nil => exact absurd rfl h0
    | cons c t =>
      simp only [List.length_cons] at hs
      refine ⟨by decide, c, rfl, bsel_of (fun h1 => ?_) (fun h1 => ?_)⟩
      · have h1 : c = 43 := byte_eq.1 (of_decide_eq_true h1)
        refine ⟨by decide, by simp only [List.length_cons]; omega, rfl, ?_, by show t.length ≤ _; omega⟩
        show parseI b (c :: t) = signed false (parseU b t)
        simp only [parseI]
        rw [if_pos h1]
      have h1 : ¬ c = 43 := fun e => of_decide_eq_false h1 (byte_eq.2 e)
      refine bsel_of (fun h2 => ?_) (fun h2 => ?_)
      · have h2 : c = 45 := byte_eq.1 (of_decide_eq_true h2)
        refine ⟨by decide, by simp only [List.length_cons]; omega, rfl, ?_, by show t.length ≤ _; omega⟩
        show parseI b (c :: t) = signed true (parseU b t)
        simp only [parseI]
        rw [if_neg h1, if_pos h2]
      have h2 : ¬ c = 45 := fun e => of_decide_eq_false h2 (byte_eq.2 e)
      refine ⟨rfl, ?_, by simp only [List.length_cons]; omega⟩
      simp only [parseI]
      rw [if_neg h1, if_neg h2]
  rintro s1 neg _ w1 ⟨rfl, hpi, hs1⟩
  rw [hpi]
  refine (parseUint_spec b hb z hz s1 hs1).mono ?_
  rintro _ w2 ⟨⟨x, y, rfl, hr⟩, hs2⟩
  have main : ∃ m : Nat, x = .int .u64 (m : Int) ∧ m ≤ 18446744073709551615 ∧ y.oneCell' = true ∧
      ((y = .nilIface ∧ parseU b s1 = .ok m) ∨ (y = NErr 1 ∧ parseU b s1 = .bad 1 ∧ m = 18446744073709551615) ∨ (y = NErr 2 ∧ parseU b s1 = .bad 2)) := by
    cases hp : parseU b s1 with
    | ok m =>
      rw [hp] at hr
      obtain ⟨rfl, rfl⟩ := hr
      exact ⟨m, rfl, parseU_le hp, rfl, .inl ⟨rfl, rfl⟩⟩
    | bad k =>
      rw [hp] at hr
      obtain ⟨rfl, rfl⟩ := hr
      rcases parseU_bad hp with rfl | rfl
      · exact ⟨18446744073709551615, rfl, by decide, rfl, .inr (.inl ⟨rfl, rfl, rfl⟩)⟩
      · exact ⟨0, rfl, by decide, rfl, .inr (.inr ⟨rfl, rfl⟩)⟩
  obtain ⟨m, rfl, hm, hy1, hy⟩ := main
  refine .inl ⟨_, y, hy1, rfl, fun w3 => w3 = w2 ∧ ((parseU b s1 = .ok m) ∨ (parseU b s1 = .bad 1 ∧ m = 18446744073709551615)), ⟨fun q w3 => w3 = w2 ∧ ((q = false ∧ ((parseU b s1 = .ok m) ∨ (parseU b s1 = .bad 1 ∧ m = 18446744073709551615))) ∨ (q = true ∧ y = NErr 2 ∧ parseU b s1 = .bad 2)), ?_, ?_⟩, ?_⟩
  · rcases hy with ⟨rfl, hp⟩ | ⟨rfl, hp, hmm⟩ | ⟨rfl, hp⟩
    · exact ⟨rfl, .inl ⟨rfl, .inl hp⟩⟩
    · exact ⟨rfl, rfl, rfl, .inl ⟨rfl, .inr ⟨hp, hmm⟩⟩⟩
    · exact ⟨rfl, rfl, rfl, .inr ⟨rfl, rfl, hp⟩⟩
  · rintro _ _ w3 ⟨rfl, ⟨rfl, h⟩ | ⟨rfl, rfl, h⟩⟩
    · exact ⟨rfl, h⟩
    · rw [h]
      exact ⟨⟨_, _, rfl, ⟨_, rfl, by decide, by decide⟩, rfl⟩, hs2⟩
  clear hy hy1 hr
  rintro _ w3 ⟨rfl, hp⟩
  have sg : signed neg (parseU b s1) = if neg = true then (if 9223372036854775808 < m then .bad 1 else .ok (-(m : Int))) else if 9223372036854775808 ≤ m then .bad 1 else .ok (m : Int) := by
    rcases hp with hp | ⟨hp, rfl⟩
    · rw [hp]; rfl
    · rw [hp]; cases neg <;> rfl
  rw [sg]
  clear sg hp


  rcases hz with rfl | rfl <;> first | refine bsel_of (fun h => absurd h (by decide)) (fun _ => ?_) | refine bsel_of (fun _ => ?_) (fun h => absurd h (by decide))
  all_goals
    refine ⟨by decide, ?_⟩
    rw [two63 rfl]
    cases neg with
    | false =>
      refine bsel_of (fun _ => ?_) (fun h => by cases h)
      refine bsel_of (fun h => ?_) (fun h => ?_)
      · have h : 9223372036854775808 ≤ m := by have := of_decide_eq_true h; omega
        rw [if_neg (by decide), if_pos h]
        exact ⟨⟨_, _, rfl, ⟨_, rfl, by decide, by decide⟩, rfl⟩, hs2⟩
      · have h : ¬ 9223372036854775808 ≤ m := by have := of_decide_eq_false h; omega
        rw [if_neg (by decide), if_neg h]
        refine bsel_of (fun h => by cases h) (fun _ => bsel_of (fun h => by cases h) (fun _ => ⟨⟨_, _, rfl, ?_, rfl⟩, hs2⟩))
        rw [wrap_i64 (by omega) (by omega)]
    | true =>
      refine bsel_of (fun h => by cases h) (fun _ => bsel_of (fun _ => ?_) (fun h => by cases h))
      refine bsel_of (fun h => ?_) (fun h => ?_)
      · have h : 9223372036854775808 < m := by have := of_decide_eq_true h; omega
        rw [if_pos rfl, if_pos h]
        exact ⟨⟨_, _, rfl, ⟨_, rfl, by decide, by decide⟩, rfl⟩, hs2⟩
      · have h : ¬ 9223372036854775808 < m := by have := of_decide_eq_false h; omega
        rw [if_pos rfl, if_neg h]
        refine bsel_of (fun _ => ⟨⟨_, _, rfl, ?_, rfl⟩, hs2⟩) (fun h => by cases h)
        rw [neg_wrap h]
end Go.Proofs.YtgincpkggnndeaaGreatDoor
