/- strconv: ParseInt, Atoi. -/
import Derived.Test.YtkbhpfihgjcjpaaDoorConv
namespace Go.Proofs.YtkbhpfihgjcjpaaDoor
open Go.RowKit Vc
variable {w : World}

theorem two63 {z : Int} (hz : z = 64) : IntKind.u64.wrap (1 * 2 ^ (min (Int.toNat (IntKind.u64.wrap (IntKind.i64.wrap (z - 1)))) (IntKind.u64.bits))) = 9223372036854775808 := by subst hz; decide
theorem neg_wrap {m : Nat} (h : ¬ 9223372036854775808 < m) : IntKind.i64.wrap (0 - IntKind.i64.wrap (m : Int)) = -(m : Int) := by
  simp only [IntKind.wrap, IntKind.signed, IntKind.bits]
  simp
  omega
set_option maxRecDepth 20000 in
theorem parseInt_spec (b : Nat) (hb : b = 8 ∨ b = 10 ∨ b = 16) (z : Int) (hz : z = 0 ∨ z = 64) (s : Txt) (hs : s.length ≤ 140737488355328) :
    Calls Tryd.prog fn_internal_strconv_ParseInt #[.string (S s), .int .i64 (b : Int), .int .i64 z] w (fun e w' => (∃ x y, e = .returned (.tuple #[x, y]) ∧ Read (parseI b s) x y) ∧ Still w w') := by
  refine internal_strconv_ParseInt_calls _ _ _ _ _ ?_
  refine bsel_of (fun h => ?_) (fun h => ?_)
  · have h := of_decide_eq_true h
    subst h
    exact ⟨⟨_, _, rfl, ⟨_, rfl, by decide, by decide⟩, rfl⟩, Still.refl _⟩
  have h0 : s ≠ [] := of_decide_eq_false h
  refine ⟨fun s1 neg w1 => w1 = w ∧ parseI b s = signed neg (parseU b s1) ∧ s1.length ≤ 140737488355328, ?_, ?_⟩
  · cases s with
    | nil => exact absurd rfl h0
    | cons c t =>
      simp only [List.length_cons] at hs
      refine ⟨by decide, c, rfl, bsel_of (fun h1 => ?_) (fun h1 => ?_)⟩
      · have h1 : c = 43 := byte_eq.1 (of_decide_eq_true h1)
        refine ⟨by decide, by simp only [List.length_cons]; omega, rfl, ?_, by show t.length ≤ _; omega⟩
        show parseI b (c :: t) = signed false (parseU b t)
        simp only [parseI]
        rw [if_pos h1]
      have h1 : ¬ c = 43 := fun e => of_decide_eq_false h1 (byte_eq.2 e)
      refine bsel_of (fun h2 => ?_) (fun h2 => ?_)
      · have h2 : c = 45 := byte_eq.1 (of_decide_eq_true h2)
        refine ⟨by decide, by simp only [List.length_cons]; omega, rfl, ?_, by show t.length ≤ _; omega⟩
        show parseI b (c :: t) = signed true (parseU b t)
        simp only [parseI]
        rw [if_neg h1, if_pos h2]
      have h2 : ¬ c = 45 := fun e => of_decide_eq_false h2 (byte_eq.2 e)
      refine ⟨rfl, ?_, by simp only [List.length_cons]; omega⟩
      simp only [parseI]
      rw [if_neg h1, if_neg h2]
  rintro s1 neg _ w1 ⟨rfl, hpi, hs1⟩
  rw [hpi]
  refine (parseUint_spec b hb z hz s1 hs1).mono ?_
  rintro _ w2 ⟨⟨x, y, rfl, hr⟩, hs2⟩
  have main : ∃ m : Nat, x = .int .u64 (m : Int) ∧ m ≤ 18446744073709551615 ∧ y.oneCell' = true ∧
      ((y = .nilIface ∧ parseU b s1 = .ok m) ∨ (y = NErr 1 ∧ parseU b s1 = .bad 1 ∧ m = 18446744073709551615) ∨ (y = NErr 2 ∧ parseU b s1 = .bad 2)) := by
    cases hp : parseU b s1 with
    | ok m =>
      rw [hp] at hr
      obtain ⟨rfl, rfl⟩ := hr
      exact ⟨m, rfl, parseU_le hp, rfl, .inl ⟨rfl, rfl⟩⟩
    | bad k =>
      rw [hp] at hr
      obtain ⟨rfl, rfl⟩ := hr
      rcases parseU_bad hp with rfl | rfl
      · exact ⟨18446744073709551615, rfl, by decide, rfl, .inr (.inl ⟨rfl, rfl, rfl⟩)⟩
      · exact ⟨0, rfl, by decide, rfl, .inr (.inr ⟨rfl, rfl⟩)⟩
  obtain ⟨m, rfl, hm, hy1, hy⟩ := main
  refine .inl ⟨_, y, hy1, rfl, fun w3 => w3 = w2 ∧ ((parseU b s1 = .ok m) ∨ (parseU b s1 = .bad 1 ∧ m = 18446744073709551615)), ⟨fun q w3 => w3 = w2 ∧ ((q = false ∧ ((parseU b s1 = .ok m) ∨ (parseU b s1 = .bad 1 ∧ m = 18446744073709551615))) ∨ (q = true ∧ y = NErr 2 ∧ parseU b s1 = .bad 2)), ?_, ?_⟩, ?_⟩
  · rcases hy with ⟨rfl, hp⟩ | ⟨rfl, hp, hmm⟩ | ⟨rfl, hp⟩
    · exact ⟨rfl, .inl ⟨rfl, .inl hp⟩⟩
    · exact ⟨rfl, rfl, rfl, .inl ⟨rfl, .inr ⟨hp, hmm⟩⟩⟩
    · exact ⟨rfl, rfl, rfl, .inr ⟨rfl, rfl, hp⟩⟩
  · rintro _ _ w3 ⟨rfl, ⟨rfl, h⟩ | ⟨rfl, rfl, h⟩⟩
    · exact ⟨rfl, h⟩
    · rw [h]
      exact ⟨⟨_, _, rfl, ⟨_, rfl, by decide, by decide⟩, rfl⟩, hs2⟩
  clear hy hy1 hr
  rintro _ w3 ⟨rfl, hp⟩
  have sg : signed neg (parseU b s1) = if neg = true then (if 9223372036854775808 < m then .bad 1 else .ok (-(m : Int))) else if 9223372036854775808 ≤ m then .bad 1 else .ok (m : Int) := by
    rcases hp with hp | ⟨hp, rfl⟩
    · rw [hp]; rfl
    · rw [hp]; cases neg <;> rfl
  rw [sg]
  clear sg hp


  rcases hz with rfl | rfl <;> first | refine bsel_of (fun h => absurd h (by decide)) (fun _ => ?_) | refine bsel_of (fun _ => ?_) (fun h => absurd h (by decide))
  all_goals
    refine ⟨by decide, ?_⟩
    rw [two63 rfl]
    cases neg with
    | false =>
      refine bsel_of (fun _ => ?_) (fun h => by cases h)
      refine bsel_of (fun h => ?_) (fun h => ?_)
      · have h : 9223372036854775808 ≤ m := by have := of_decide_eq_true h; omega
        rw [if_neg (by decide), if_pos h]
        exact ⟨⟨_, _, rfl, ⟨_, rfl, by decide, by decide⟩, rfl⟩, hs2⟩
      · have h : ¬ 9223372036854775808 ≤ m := by have := of_decide_eq_false h; omega
        rw [if_neg (by decide), if_neg h]
        refine bsel_of (fun h => by cases h) (fun _ => bsel_of (fun h => by cases h) (fun _ => ⟨⟨_, _, rfl, ?_, rfl⟩, hs2⟩))
        rw [wrap_i64 (by omega) (by omega)]
    | true =>
      refine bsel_of (fun h => by cases h) (fun _ => bsel_of (fun _ => ?_) (fun h => by cases h))
      refine bsel_of (fun h => ?_) (fun h => ?_)
      · have h : 9223372036854775808 < m := by have := of_decide_eq_true h; omega
        rw [if_pos rfl, if_pos h]
        exact ⟨⟨_, _, rfl, ⟨_, rfl, by decide, by decide⟩, rfl⟩, hs2⟩
      · have h : ¬ 9223372036854775808 < m := by have := of_decide_eq_false h; omega
        rw [if_pos rfl, if_neg h]
        refine bsel_of (fun _ => ⟨⟨_, _, rfl, ?_, rfl⟩, hs2⟩) (fun h => by cases h)
        rw [neg_wrap h]
theorem sub48 {c : UInt8} : (decide ((9 : Int) < IntKind.u8.wrap ((c.toNat : Int) - 48))) = !isDig c := by
  have h : ∀ n : Nat, n < 256 → decide ((9 : Int) < IntKind.u8.wrap ((n : Int) - 48)) = !(decide (48 ≤ n) && decide (n ≤ 57)) := by decide +kernel
  exact h _ c.toNat_lt
theorem val48 {c : UInt8} (h : isDig c = true) : IntKind.u8.wrap ((c.toNat : Int) - 48) = ((c.toNat - 48 : Nat) : Int) ∧ c.toNat - 48 ≤ 9 := by
  unfold isDig at h
  simp only [Bool.and_eq_true, decide_eq_true_eq] at h
  rw [wrap_u8 (by omega) (by omega)]
  omega
theorem digV_no {c : UInt8} (h : isDig c = false) : ∀ d, digV c = some d → 10 ≤ d := by
  intro d hd
  unfold isDig at h
  unfold digV at hd
  rw [if_neg (by intro h2; rw [decide_eq_true h2.1, decide_eq_true h2.2] at h; cases h)] at hd
  split at hd
  · injection hd with hd; omega
  · cases hd
theorem pow_le18 {k : Nat} (h : k ≤ 18) : 10 ^ k ≤ 1000000000000000000 := Nat.le_trans (Nat.pow_le_pow_right (by decide) h) (by decide)
set_option maxRecDepth 20000 in
theorem atoi_in (s : Txt) (hs : s.length ≤ 140737488355328) :
    Calls Tryd.prog fn_internal_strconv_Atoi #[.string (S s)] w (fun e w' => (∃ x y, e = .returned (.tuple #[x, y]) ∧ y.oneCell' = true ∧ Read (parseI 10 s) x y) ∧ Still w w') := by
  refine internal_strconv_Atoi_calls _ _ _ ?_
  have slow : Calls Tryd.prog fn_internal_strconv_ParseInt #[.string (S s), .int .i64 ((10 : Nat) : Int), .int .i64 0] w (fun e w' => (∃ x y, e = .returned (.tuple #[x, y]) ∧ y.oneCell' = true ∧ ∃ n : Int, x = .int .i64 n ∧ Read (parseI 10 s) x y) ∧ Still w w') := by
    refine (parseInt_spec 10 (.inr (.inl rfl)) 0 (.inl rfl) s hs).mono ?_
    rintro _ w1 ⟨⟨x, y, rfl, hr⟩, hs1⟩
    refine ⟨⟨x, y, rfl, ?_⟩, hs1⟩
    cases hp : parseI 10 s with
    | ok n =>
      rw [hp] at hr
      obtain ⟨rfl, rfl⟩ := hr
      exact ⟨rfl, _, rfl, rfl, rfl⟩
    | bad k =>
      rw [hp] at hr
      obtain ⟨⟨m, rfl, h⟩, rfl⟩ := hr
      exact ⟨rfl, _, rfl, ⟨m, rfl, h⟩, rfl⟩
  refine bsel_of (fun h => ?_) (fun _ => ?_)
  rotate_left
  · refine slow.mono ?_
    rintro _ w1 ⟨⟨x, y, rfl, hy, n, rfl, hr⟩, hs1⟩
    exact .inl ⟨_, y, hy, rfl, ⟨_, _, rfl, hy, hr⟩, hs1⟩
  refine bsel_of (fun h9 => ?_) (fun _ => ?_)
  rotate_left
  · refine slow.mono ?_
    rintro _ w1 ⟨⟨x, y, rfl, hy, n, rfl, hr⟩, hs1⟩
    exact .inl ⟨_, y, hy, rfl, ⟨_, _, rfl, hy, hr⟩, hs1⟩
  clear slow
  have h : 0 < s.length := by have := of_decide_eq_true h; omega
  have h9 : s.length < 19 := by have := of_decide_eq_true h9; omega
  obtain ⟨c, t, rfl⟩ : ∃ c t, s = c :: t := by cases s with
    | nil => exact absurd h (Nat.lt_irrefl _)
    | cons c t => exact ⟨c, t, rfl⟩
  simp only [List.length_cons] at h9
  refine ⟨fun s1 w1 => w1 = w ∧ s1 ≠ [] ∧ s1.length ≤ 18 ∧ parseI 10 (c :: t) = signed (decide (c = 45)) (parseU 10 s1), ⟨fun q w1 => w1 = w ∧ q = (decide (c = 45) || decide (c = 43)), ?_, ?_⟩, ?_⟩
  · refine ⟨by decide, c, rfl, bsel_of (fun h1 => ?_) (fun h1 => ?_)⟩
    · have h1 : c = 45 := byte_eq.1 (of_decide_eq_true h1)
      exact ⟨rfl, by rw [decide_eq_true h1]; rfl⟩
    · have h1 : ¬ c = 45 := fun e => of_decide_eq_false h1 (byte_eq.2 e)
      refine ⟨by decide, c, rfl, rfl, ?_⟩
      rw [decide_eq_false h1, Bool.false_or]
      exact decide_eq_decide.2 (byte_eq (a := c) (b := 43))
  · rintro _ _ w1 ⟨rfl, rfl⟩
    have key : parseI 10 (c :: t) = (if c = 43 then signed false (parseU 10 t) else if c = 45 then signed true (parseU 10 t) else signed false (parseU 10 (c :: t))) := rfl
    refine bsel_of (fun h1 => ?_) (fun h1 => ?_)
    · have key2 : parseI 10 (c :: t) = signed (decide (c = 45)) (parseU 10 t) := by
        rw [key]
        by_cases h3 : c = 43
        · rw [if_pos h3, decide_eq_false (by rw [h3]; decide)]
        · have h4 : c = 45 := by rw [decide_eq_false h3, Bool.or_false] at h1; exact of_decide_eq_true h1
          rw [if_neg h3, if_pos h4, decide_eq_true h4]
      refine ⟨by decide, by simp only [List.length_cons]; omega, bsel_of (fun h2 => ?_) (fun h2 => ?_)⟩
      · have h2 : t = [] := by have := of_decide_eq_true h2; apply List.eq_nil_of_length_eq_zero; have e : ((c :: t).drop (Int.toNat 1)).length = t.length := rfl; rw [e] at this; omega
        subst h2
        rw [key2]
        exact ⟨⟨_, _, rfl, rfl, ⟨_, rfl, by decide, by decide⟩, rfl⟩, Still.refl _⟩
      · have h2 : t ≠ [] := by intro e; subst e; exact of_decide_eq_false h2 (by show ((0 : Nat) : Int) < 1; omega)
        exact ⟨rfl, h2, by show t.length ≤ 18; omega, key2⟩
    · have h3 : ¬ c = 43 := fun e => by rw [decide_eq_true e, Bool.or_true] at h1; cases h1
      have h4 : ¬ c = 45 := fun e => by rw [decide_eq_true e, Bool.true_or] at h1; cases h1
      refine ⟨rfl, (fun e => by cases e), by simp only [List.length_cons]; omega, ?_⟩
      rw [key, if_neg h3, if_neg h4, decide_eq_false h4]
  rintro s1 _ w2 ⟨rfl, hne, h18, hpi⟩
  rw [hpi]
  have hpu : parseU 10 s1 = scanU 10 s1 0 := by unfold parseU; rw [if_neg hne]
  rw [hpu]
  refine ⟨by omega, fun cp w4 ho4 hg4 => ?_⟩
  have hst4 : Still w2 w4 := (Mod.refl _ _).grown hg4 (fun g e => by cases e)
  refine ⟨fun n i w5 => ∃ k m : Nat, n = (m : Int) ∧ i = (k : Int) ∧ k ≤ s1.length ∧ m < 10 ^ k ∧ scanU 10 s1 0 = scanU 10 (s1.drop k) m ∧ w5 = w4, fun _ i _ => s1.length - i.toNat, ⟨0, 0, rfl, rfl, Nat.zero_le _, by decide, rfl, rfl⟩, ?_⟩
  rintro _ _ _ w5 ⟨k, m, rfl, rfl, hk, hm, hsc, rfl⟩
  refine bsel_of (fun hx => ?_) (fun hx => ?_)
  · have hx : k < s1.length := by have := of_decide_eq_true hx; omega
    have e1 : IntKind.i64.wrap ((k : Int) + 1) = ((k + 1 : Nat) : Int) := by rw [wrap_i64 (by omega) (by omega)]; omega
    rw [e1]
    rw [List.drop_eq_getElem_cons hx] at hsc
    have hsk := getD_some hx
    generalize s1[k] = d at *
    refine ⟨by omega, by omega, _, by rw [Int.toNat_natCast, Nat.mul_one, add_row, Nat.zero_add]; exact ho4.cells rfl k _ (bc_get hsk), ?_⟩
    rw [sub48]
    cases hd : isDig d with
    | false =>
      refine bsel_of (fun _ => ?_) (fun h => by cases h)
      have e2 : scanU 10 (d :: s1.drop (k + 1)) m = .bad 2 := by
        simp only [scanU]
        cases hv : digV d with
        | none => rfl
        | some v => dsimp only; rw [if_pos (digV_no hd v hv)]
      rw [hsc, e2]
      exact ⟨⟨_, _, rfl, rfl, ⟨_, rfl, by decide, by decide⟩, rfl⟩, hst4⟩
    | true =>
      refine bsel_of (fun h => by cases h) (fun _ => ?_)
      obtain ⟨e3, h9d⟩ := val48 hd
      have hp := pow_le18 (show k + 1 ≤ 18 by omega)
      have hp1 : 10 ^ (k + 1) = 10 ^ k * 10 := Nat.pow_succ _ _
      have e4 : IntKind.i64.wrap ((m : Int) * 10) = ((m * 10 : Nat) : Int) := by rw [wrap_i64 (by omega) (by omega)]; omega
      have e5 : IntKind.i64.wrap ((d.toNat - 48 : Nat) : Int) = ((d.toNat - 48 : Nat) : Int) := wrap_i64 (by omega) (by omega)
      have e6 : IntKind.i64.wrap (((m * 10 : Nat) : Int) + ((d.toNat - 48 : Nat) : Int)) = ((m * 10 + (d.toNat - 48) : Nat) : Int) := by rw [wrap_i64 (by omega) (by omega)]; omega
      rw [e3, e4, e5, e6]
      refine ⟨⟨k + 1, m * 10 + (d.toNat - 48), rfl, rfl, hx, by omega, ?_, rfl⟩, by dsimp only; omega⟩
      rw [hsc]
      simp only [scanU]
      rw [digV_dig hd]
      dsimp only
      rw [if_neg (by omega), if_neg (by omega)]
  · have hx : k = s1.length := by have := of_decide_eq_false hx; omega
    have hp := pow_le18 (show k ≤ 18 by omega)
    have e7 : scanU 10 (s1.drop k) m = .ok m := by rw [hx, List.drop_length]; rfl
    rw [hsc, e7]
    refine ⟨by decide, c, rfl, bsel_of (fun h1 => ?_) (fun h1 => ?_)⟩
    · have h1 : c = 45 := byte_eq.1 (of_decide_eq_true h1)
      rw [decide_eq_true h1]
      have e8 : signed true (.ok m) = .ok (-(m : Int)) := by unfold signed; dsimp only; rw [if_pos rfl, if_neg (by omega)]
      rw [e8, wrap_i64 (by omega) (by omega)]
      refine ⟨⟨_, _, rfl, rfl, ?_, rfl⟩, hst4⟩
      rw [Int.zero_sub]
    · have h1 : ¬ c = 45 := fun e => of_decide_eq_false h1 (byte_eq.2 e)
      rw [decide_eq_false h1]
      have e8 : signed false (.ok m) = .ok (m : Int) := by unfold signed; dsimp only; rw [if_neg (by decide), if_neg (by omega)]
      rw [e8]
      exact ⟨⟨_, _, rfl, rfl, rfl, rfl⟩, hst4⟩
theorem atoi_spec (he : Env w) (s : Txt) (hs : s.length ≤ 140737488355328) :
    Calls Tryd.prog fn_strconv_Atoi #[.string (S s)] w (fun e w' => (∃ x y, e = .returned (.tuple #[x, y]) ∧ y.oneCell' = true ∧ (match parseI 10 s with
      | .ok n => x = .int .i64 n ∧ y = .nilIface
      | .bad _ => (∃ m : Int, x = .int .i64 m ∧ -9223372036854775808 ≤ m ∧ m < 9223372036854775808) ∧ ∃ t v, y = .iface t v)) ∧ Still w w') := by
  refine strconv_Atoi_calls _ _ _ ?_
  refine (atoi_in s hs).mono ?_
  rintro _ w1 ⟨⟨x, y, rfl, hy, hr⟩, hs1⟩
  cases hp : parseI 10 s with
  | ok n =>
    rw [hp] at hr
    obtain ⟨rfl, rfl⟩ := hr
    exact .inl ⟨_, _, rfl, rfl, ⟨_, _, rfl, rfl, rfl, rfl⟩, hs1⟩
  | bad k =>
    rw [hp] at hr
    obtain ⟨⟨m, rfl, hm⟩, rfl⟩ := hr
    refine .inl ⟨_, _, rfl, rfl, ?_⟩
    refine (toError_spec (he.still hs1) _ s 0 0 hs (parseI_bad hp)).mono ?_
    rintro _ w2 ⟨⟨t, v, rfl⟩, hs2⟩
    exact .inl ⟨_, rfl, rfl, ⟨_, _, rfl, rfl, ⟨m, rfl, hm⟩, t, v, rfl⟩, hs1.trans hs2⟩
end Go.Proofs.YtkbhpfihgjcjpaaDoor
