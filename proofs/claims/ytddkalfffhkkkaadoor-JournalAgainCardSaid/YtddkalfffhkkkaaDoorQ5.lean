/- Texts of one proof, one behind the other. Conditions: as each theorem names them. -/
import Derived.Test.YtddkalfffhkkkaaDoorQ4
namespace Go.Proofs.YtddkalfffhkkkaaDoor
open Go.RowKit Vc
variable {w : World}
theorem two63 {z : Int} (hz : z = 64) : IntKind.u64.wrap (1 * 2 ^ (min (Int.toNat (IntKind.u64.wrap (IntKind.i64.wrap (z - 1)))) (IntKind.u64.bits))) = 9223372036854775808 := by subst hz; decide
theorem neg_wrap {m : Nat} (h : ¬ 9223372036854775808 < m) : IntKind.i64.wrap (0 - IntKind.i64.wrap (m : Int)) = -(m : Int) := by
  simp only [IntKind.wrap, IntKind.signed, IntKind.bits]
  simp
  omega
set_option maxRecDepth 20000 in
theorem parseInt_spec (b : Nat) (hb : b = 8 ∨ b = 10 ∨ b = 16) (z : Int) (hz : z = 0 ∨ z = 64) (s : Txt) (hs : s.length ≤ 140737488355328) :
    Calls Tryd.prog fn_internal_strconv_ParseInt #[.string (S s), .int .i64 (b : Int), .int .i64 z] w (fun e w' => (∃ x y, e = .returned (.tuple #[x, y]) ∧ Read (parseI b s) x y) ∧ Still w w') := by
  refine internal_strconv_ParseInt_calls _ _ _ _ _ ?_
  refine bsel_of (fun h => ?_) (fun h => ?_)
  · have h := of_decide_eq_true h
    subst h
    exact ⟨⟨_, _, rfl, ⟨_, rfl, by decide, by decide⟩, rfl⟩, Still.refl _⟩
  have h0 : s ≠ [] := of_decide_eq_false h
  refine ⟨fun s1 neg w1 => w1 = w ∧ parseI b s = signed neg (parseU b s1) ∧ s1.length ≤ 140737488355328, ?_, ?_⟩
  · cases s with
    | nil => exact absurd rfl h0
    | cons c t =>
      simp only [List.length_cons] at hs
      refine ⟨by decide, c, rfl, bsel_of (fun h1 => ?_) (fun h1 => ?_)⟩
      · have h1 : c = 43 := byte_eq.1 (of_decide_eq_true h1)
        refine ⟨by decide, by simp only [List.length_cons]; omega, rfl, ?_, by show t.length ≤ _; omega⟩
        show parseI b (c :: t) = signed false (parseU b t)
        simp only [parseI]
        rw [if_pos h1]
      have h1 : ¬ c = 43 := fun e => of_decide_eq_false h1 (byte_eq.2 e)
      refine bsel_of (fun h2 => ?_) (fun h2 => ?_)
      · have h2 : c = 45 := byte_eq.1 (of_decide_eq_true h2)
        refine ⟨by decide, by simp only [List.length_cons]; omega, rfl, ?_, by show t.length ≤ _; omega⟩
        show parseI b (c :: t) = signed true (parseU b t)
        simp only [parseI]
        rw [if_neg h1, if_pos h2]
      have h2 : ¬ c = 45 := fun e => of_decide_eq_false h2 (byte_eq.2 e)
      refine ⟨rfl, ?_, by simp only [List.length_cons]; omega⟩
      simp only [parseI]
      rw [if_neg h1, if_neg h2]
  rintro s1 neg _ w1 ⟨rfl, hpi, hs1⟩
  rw [hpi]
  refine (parseUint_spec b hb z hz s1 hs1).mono ?_
  rintro _ w2 ⟨⟨x, y, rfl, hr⟩, hs2⟩
  have main : ∃ m : Nat, x = .int .u64 (m : Int) ∧ m ≤ 18446744073709551615 ∧ y.oneCell' = true ∧
      ((y = .nilIface ∧ parseU b s1 = .ok m) ∨ (y = NErr 1 ∧ parseU b s1 = .bad 1 ∧ m = 18446744073709551615) ∨ (y = NErr 2 ∧ parseU b s1 = .bad 2)) := by
    cases hp : parseU b s1 with
    | ok m =>
      rw [hp] at hr
      obtain ⟨rfl, rfl⟩ := hr
      exact ⟨m, rfl, parseU_le hp, rfl, .inl ⟨rfl, rfl⟩⟩
    | bad k =>
      rw [hp] at hr
      obtain ⟨rfl, rfl⟩ := hr
      rcases parseU_bad hp with rfl | rfl
      · exact ⟨18446744073709551615, rfl, by decide, rfl, .inr (.inl ⟨rfl, rfl, rfl⟩)⟩
      · exact ⟨0, rfl, by decide, rfl, .inr (.inr ⟨rfl, rfl⟩)⟩
  obtain ⟨m, rfl, hm, hy1, hy⟩ := main
  refine .inl ⟨_, y, hy1, rfl, fun w3 => w3 = w2 ∧ ((parseU b s1 = .ok m) ∨ (parseU b s1 = .bad 1 ∧ m = 18446744073709551615)), ⟨fun q w3 => w3 = w2 ∧ ((q = false ∧ ((parseU b s1 = .ok m) ∨ (parseU b s1 = .bad 1 ∧ m = 18446744073709551615))) ∨ (q = true ∧ y = NErr 2 ∧ parseU b s1 = .bad 2)), ?_, ?_⟩, ?_⟩
  · rcases hy with ⟨rfl, hp⟩ | ⟨rfl, hp, hmm⟩ | ⟨rfl, hp⟩
    · exact ⟨rfl, .inl ⟨rfl, .inl hp⟩⟩
    · exact ⟨rfl, rfl, rfl, .inl ⟨rfl, .inr ⟨hp, hmm⟩⟩⟩
    · exact ⟨rfl, rfl, rfl, .inr ⟨rfl, rfl, hp⟩⟩
  · rintro _ _ w3 ⟨rfl, ⟨rfl, h⟩ | ⟨rfl, rfl, h⟩⟩
    · exact ⟨rfl, h⟩
    · rw [h]
      exact ⟨⟨_, _, rfl, ⟨_, rfl, by decide, by decide⟩, rfl⟩, hs2⟩
  clear hy hy1 hr
  rintro _ w3 ⟨rfl, hp⟩
  have sg : signed neg (parseU b s1) = if neg = true then (if 9223372036854775808 < m then .bad 1 else .ok (-(m : Int))) else if 9223372036854775808 ≤ m then .bad 1 else .ok (m : Int) := by
    rcases hp with hp | ⟨hp, rfl⟩
    · rw [hp]; rfl
    · rw [hp]; cases neg <;> rfl
  rw [sg]
  clear sg hp
  rcases hz with rfl | rfl <;> first | refine bsel_of (fun h => absurd h (by decide)) (fun _ => ?_) | refine bsel_of (fun _ => ?_) (fun h => absurd h (by decide))
  all_goals
    refine ⟨by decide, ?_⟩
    rw [two63 rfl]
    cases neg with
    | false =>
      refine bsel_of (fun _ => ?_) (fun h => by cases h)
      refine bsel_of (fun h => ?_) (fun h => ?_)
      · have h : 9223372036854775808 ≤ m := by have := of_decide_eq_true h; omega
        rw [if_neg (by decide), if_pos h]
        exact ⟨⟨_, _, rfl, ⟨_, rfl, by decide, by decide⟩, rfl⟩, hs2⟩
      · have h : ¬ 9223372036854775808 ≤ m := by have := of_decide_eq_false h; omega
        rw [if_neg (by decide), if_neg h]
        refine bsel_of (fun h => by cases h) (fun _ => bsel_of (fun h => by cases h) (fun _ => ⟨⟨_, _, rfl, ?_, rfl⟩, hs2⟩))
        rw [wrap_i64 (by omega) (by omega)]
    | true =>
      refine bsel_of (fun h => by cases h) (fun _ => bsel_of (fun _ => ?_) (fun h => by cases h))
      refine bsel_of (fun h => ?_) (fun h => ?_)
      · have h : 9223372036854775808 < m := by have := of_decide_eq_true h; omega
        rw [if_pos rfl, if_pos h]
        exact ⟨⟨_, _, rfl, ⟨_, rfl, by decide, by decide⟩, rfl⟩, hs2⟩
      · have h : ¬ 9223372036854775808 < m := by have := of_decide_eq_false h; omega
        rw [if_pos rfl, if_neg h]
        refine bsel_of (fun _ => ⟨⟨_, _, rfl, ?_, rfl⟩, hs2⟩) (fun h => by cases h)
        rw [neg_wrap h]
theorem sub48 {c : UInt8} : (decide ((9 : Int) < IntKind.u8.wrap ((c.toNat : Int) - 48))) = !isDig c := by
  have h : ∀ n : Nat, n < 256 → decide ((9 : Int) < IntKind.u8.wrap ((n : Int) - 48)) = !(decide (48 ≤ n) && decide (n ≤ 57)) := by decide +kernel
  exact h _ c.toNat_lt
theorem val48 {c : UInt8} (h : isDig c = true) : IntKind.u8.wrap ((c.toNat : Int) - 48) = ((c.toNat - 48 : Nat) : Int) ∧ c.toNat - 48 ≤ 9 := by
  unfold isDig at h
  simp only [Bool.and_eq_true, decide_eq_true_eq] at h
  rw [wrap_u8 (by omega) (by omega)]
  omega
theorem digV_no {c : UInt8} (h : isDig c = false) : ∀ d, digV c = some d → 10 ≤ d := by
  intro d hd
  unfold isDig at h
  unfold digV at hd
  rw [if_neg (by intro h2; rw [decide_eq_true h2.1, decide_eq_true h2.2] at h; cases h)] at hd
  split at hd
  · injection hd with hd; omega
  · cases hd
theorem pow_le18 {k : Nat} (h : k ≤ 18) : 10 ^ k ≤ 1000000000000000000 := Nat.le_trans (Nat.pow_le_pow_right (by decide) h) (by decide)
set_option maxRecDepth 20000 in
theorem atoi_in (s : Txt) (hs : s.length ≤ 140737488355328) :
    Calls Tryd.prog fn_internal_strconv_Atoi #[.string (S s)] w (fun e w' => (∃ x y, e = .returned (.tuple #[x, y]) ∧ y.oneCell' = true ∧ Read (parseI 10 s) x y) ∧ Still w w') := by
  refine internal_strconv_Atoi_calls _ _ _ ?_
  have slow : Calls Tryd.prog fn_internal_strconv_ParseInt #[.string (S s), .int .i64 ((10 : Nat) : Int), .int .i64 0] w (fun e w' => (∃ x y, e = .returned (.tuple #[x, y]) ∧ y.oneCell' = true ∧ ∃ n : Int, x = .int .i64 n ∧ Read (parseI 10 s) x y) ∧ Still w w') := by
    refine (parseInt_spec 10 (.inr (.inl rfl)) 0 (.inl rfl) s hs).mono ?_
    rintro _ w1 ⟨⟨x, y, rfl, hr⟩, hs1⟩
    refine ⟨⟨x, y, rfl, ?_⟩, hs1⟩
    cases hp : parseI 10 s with
    | ok n =>
      rw [hp] at hr
      obtain ⟨rfl, rfl⟩ := hr
      exact ⟨rfl, _, rfl, rfl, rfl⟩
    | bad k =>
      rw [hp] at hr
      obtain ⟨⟨m, rfl, h⟩, rfl⟩ := hr
      exact ⟨rfl, _, rfl, ⟨m, rfl, h⟩, rfl⟩
  refine bsel_of (fun h => ?_) (fun _ => ?_)
  rotate_left
  · refine slow.mono ?_
    rintro _ w1 ⟨⟨x, y, rfl, hy, n, rfl, hr⟩, hs1⟩
    exact .inl ⟨_, y, hy, rfl, ⟨_, _, rfl, hy, hr⟩, hs1⟩
  refine bsel_of (fun h9 => ?_) (fun _ => ?_)
  rotate_left
  · refine slow.mono ?_
    rintro _ w1 ⟨⟨x, y, rfl, hy, n, rfl, hr⟩, hs1⟩
    exact .inl ⟨_, y, hy, rfl, ⟨_, _, rfl, hy, hr⟩, hs1⟩
  clear slow
  have h : 0 < s.length := by have := of_decide_eq_true h; omega
  have h9 : s.length < 19 := by have := of_decide_eq_true h9; omega
  obtain ⟨c, t, rfl⟩ : ∃ c t, s = c :: t := by cases s with
    | nil => exact absurd h (Nat.lt_irrefl _)
    | cons c t => exact ⟨c, t, rfl⟩
  simp only [List.length_cons] at h9
  refine ⟨fun s1 w1 => w1 = w ∧ s1 ≠ [] ∧ s1.length ≤ 18 ∧ parseI 10 (c :: t) = signed (decide (c = 45)) (parseU 10 s1), ⟨fun q w1 => w1 = w ∧ q = (decide (c = 45) || decide (c = 43)), ?_, ?_⟩, ?_⟩
  · refine ⟨by decide, c, rfl, bsel_of (fun h1 => ?_) (fun h1 => ?_)⟩
    · have h1 : c = 45 := byte_eq.1 (of_decide_eq_true h1)
      exact ⟨rfl, by rw [decide_eq_true h1]; rfl⟩
    · have h1 : ¬ c = 45 := fun e => of_decide_eq_false h1 (byte_eq.2 e)
      refine ⟨by decide, c, rfl, rfl, ?_⟩
      rw [decide_eq_false h1, Bool.false_or]
      exact decide_eq_decide.2 (byte_eq (a := c) (b := 43))
  · rintro _ _ w1 ⟨rfl, rfl⟩
    have key : parseI 10 (c :: t) = (if c = 43 then signed false (parseU 10 t) else if c = 45 then signed true (parseU 10 t) else signed false (parseU 10 (c :: t))) := rfl
    refine bsel_of (fun h1 => ?_) (fun h1 => ?_)
    · have key2 : parseI 10 (c :: t) = signed (decide (c = 45)) (parseU 10 t) := by
        rw [key]
        by_cases h3 : c = 43
        · rw [if_pos h3, decide_eq_false (by rw [h3]; decide)]
        · have h4 : c = 45 := by rw [decide_eq_false h3, Bool.or_false] at h1; exact of_decide_eq_true h1
          rw [if_neg h3, if_pos h4, decide_eq_true h4]
      refine ⟨by decide, by simp only [List.length_cons]; omega, bsel_of (fun h2 => ?_) (fun h2 => ?_)⟩
      · have h2 : t = [] := by have := of_decide_eq_true h2; apply List.eq_nil_of_length_eq_zero; have e : ((c :: t).drop (Int.toNat 1)).length = t.length := rfl; rw [e] at this; omega
        subst h2
        rw [key2]
        exact ⟨⟨_, _, rfl, rfl, ⟨_, rfl, by decide, by decide⟩, rfl⟩, Still.refl _⟩
      · have h2 : t ≠ [] := by intro e; subst e; exact of_decide_eq_false h2 (by show ((0 : Nat) : Int) < 1; omega)
        exact ⟨rfl, h2, by show t.length ≤ 18; omega, key2⟩
    · have h3 : ¬ c = 43 := fun e => by rw [decide_eq_true e, Bool.or_true] at h1; cases h1
      have h4 : ¬ c = 45 := fun e => by rw [decide_eq_true e, Bool.true_or] at h1; cases h1
      refine ⟨rfl, (fun e => by cases e), by simp only [List.length_cons]; omega, ?_⟩
      rw [key, if_neg h3, if_neg h4, decide_eq_false h4]
  rintro s1 _ w2 ⟨rfl, hne, h18, hpi⟩
  rw [hpi]
  have hpu : parseU 10 s1 = scanU 10 s1 0 := by unfold parseU; rw [if_neg hne]
  rw [hpu]
  refine ⟨by omega, fun cp w4 ho4 hg4 => ?_⟩
  have hst4 : Still w2 w4 := (Mod.refl _ _).grown hg4 (fun g e => by cases e)
  refine ⟨fun n i w5 => ∃ k m : Nat, n = (m : Int) ∧ i = (k : Int) ∧ k ≤ s1.length ∧ m < 10 ^ k ∧ scanU 10 s1 0 = scanU 10 (s1.drop k) m ∧ w5 = w4, fun _ i _ => s1.length - i.toNat, ⟨0, 0, rfl, rfl, Nat.zero_le _, by decide, rfl, rfl⟩, ?_⟩
  rintro _ _ _ w5 ⟨k, m, rfl, rfl, hk, hm, hsc, rfl⟩
  refine bsel_of (fun hx => ?_) (fun hx => ?_)
  · have hx : k < s1.length := by have := of_decide_eq_true hx; omega
    have e1 : IntKind.i64.wrap ((k : Int) + 1) = ((k + 1 : Nat) : Int) := by rw [wrap_i64 (by omega) (by omega)]; omega
    rw [e1]
    rw [List.drop_eq_getElem_cons hx] at hsc
    have hsk := getD_some hx
    generalize s1[k] = d at *
    refine ⟨by omega, by omega, _, by rw [Int.toNat_natCast, Nat.mul_one, add_row, Nat.zero_add]; exact ho4.cells rfl k _ (bc_get hsk), ?_⟩
    rw [sub48]
    cases hd : isDig d with
    | false =>
      refine bsel_of (fun _ => ?_) (fun h => by cases h)
      have e2 : scanU 10 (d :: s1.drop (k + 1)) m = .bad 2 := by
        simp only [scanU]
        cases hv : digV d with
        | none => rfl
        | some v => dsimp only; rw [if_pos (digV_no hd v hv)]
      rw [hsc, e2]
      exact ⟨⟨_, _, rfl, rfl, ⟨_, rfl, by decide, by decide⟩, rfl⟩, hst4⟩
    | true =>
      refine bsel_of (fun h => by cases h) (fun _ => ?_)
      obtain ⟨e3, h9d⟩ := val48 hd
      have hp := pow_le18 (show k + 1 ≤ 18 by omega)
      have hp1 : 10 ^ (k + 1) = 10 ^ k * 10 := Nat.pow_succ _ _
      have e4 : IntKind.i64.wrap ((m : Int) * 10) = ((m * 10 : Nat) : Int) := by rw [wrap_i64 (by omega) (by omega)]; omega
      have e5 : IntKind.i64.wrap ((d.toNat - 48 : Nat) : Int) = ((d.toNat - 48 : Nat) : Int) := wrap_i64 (by omega) (by omega)
      have e6 : IntKind.i64.wrap (((m * 10 : Nat) : Int) + ((d.toNat - 48 : Nat) : Int)) = ((m * 10 + (d.toNat - 48) : Nat) : Int) := by rw [wrap_i64 (by omega) (by omega)]; omega
      rw [e3, e4, e5, e6]
      refine ⟨⟨k + 1, m * 10 + (d.toNat - 48), rfl, rfl, hx, by omega, ?_, rfl⟩, by dsimp only; omega⟩
      rw [hsc]
      simp only [scanU]
      rw [digV_dig hd]
      dsimp only
      rw [if_neg (by omega), if_neg (by omega)]
  · have hx : k = s1.length := by have := of_decide_eq_false hx; omega
    have hp := pow_le18 (show k ≤ 18 by omega)
    have e7 : scanU 10 (s1.drop k) m = .ok m := by rw [hx, List.drop_length]; rfl
    rw [hsc, e7]
    refine ⟨by decide, c, rfl, bsel_of (fun h1 => ?_) (fun h1 => ?_)⟩
    · have h1 : c = 45 := byte_eq.1 (of_decide_eq_true h1)
      rw [decide_eq_true h1]
      have e8 : signed true (.ok m) = .ok (-(m : Int)) := by unfold signed; dsimp only; rw [if_pos rfl, if_neg (by omega)]
      rw [e8, wrap_i64 (by omega) (by omega)]
      refine ⟨⟨_, _, rfl, rfl, ?_, rfl⟩, hst4⟩
      rw [Int.zero_sub]
    · have h1 : ¬ c = 45 := fun e => of_decide_eq_false h1 (byte_eq.2 e)
      rw [decide_eq_false h1]
      have e8 : signed false (.ok m) = .ok (m : Int) := by unfold signed; dsimp only; rw [if_neg (by decide), if_neg (by omega)]
      rw [e8]
      exact ⟨⟨_, _, rfl, rfl, rfl, rfl⟩, hst4⟩
theorem atoi_spec (he : Env w) (s : Txt) (hs : s.length ≤ 140737488355328) :
    Calls Tryd.prog fn_strconv_Atoi #[.string (S s)] w (fun e w' => (∃ x y, e = .returned (.tuple #[x, y]) ∧ y.oneCell' = true ∧ (match parseI 10 s with
      | .ok n => x = .int .i64 n ∧ y = .nilIface
      | .bad _ => (∃ m : Int, x = .int .i64 m ∧ -9223372036854775808 ≤ m ∧ m < 9223372036854775808) ∧ ∃ t v, y = .iface t v)) ∧ Still w w') := by
  refine strconv_Atoi_calls _ _ _ ?_
  refine (atoi_in s hs).mono ?_
  rintro _ w1 ⟨⟨x, y, rfl, hy, hr⟩, hs1⟩
  cases hp : parseI 10 s with
  | ok n =>
    rw [hp] at hr
    obtain ⟨rfl, rfl⟩ := hr
    exact .inl ⟨_, _, rfl, rfl, ⟨_, _, rfl, rfl, rfl, rfl⟩, hs1⟩
  | bad k =>
    rw [hp] at hr
    obtain ⟨⟨m, rfl, hm⟩, rfl⟩ := hr
    refine .inl ⟨_, _, rfl, rfl, ?_⟩
    refine (toError_spec (he.still hs1) _ s 0 0 hs (parseI_bad hp)).mono ?_
    rintro _ w2 ⟨⟨t, v, rfl⟩, hs2⟩
    exact .inl ⟨_, rfl, rfl, ⟨_, _, rfl, rfl, ⟨m, rfl, hm⟩, t, v, rfl⟩, hs1.trans hs2⟩
theorem nd {p : Prop} [Decidable p] (h : (!decide p) = false) : p := by simpa using h
theorem number_spec (he : Env w) (s : Txt) (hs : s.length ≤ 140737488355328) :
    Calls Tryd.prog fn_tuple_Number #[.string (S s)] w (fun e w' => (∃ (m : Int) (ok : Bool), e = .returned (.tuple #[.int .i64 m, .bool ok]) ∧ (match numR s with
      | some n => m = (n : Int) ∧ ok = true
      | none => ok = false)) ∧ Still w w') := by
  refine tuple_Number_calls _ _ _ ?_
  refine (atoi_spec he s hs).mono ?_
  rintro _ w1 ⟨⟨x, y, rfl, hy, hr⟩, hs1⟩
  cases hp : parseI 10 s with
  | bad k =>
    rw [hp] at hr
    obtain ⟨⟨m, rfl, hm⟩, t, v, rfl⟩ := hr
    refine .inl ⟨_, _, hy, rfl, ?_⟩
    have hn : numR s = none := by
      cases hn : numR s with
      | none => rfl
      | some n => rw [parseI_dec hn] at hp; cases hp
    rw [hn]
    exact ⟨⟨_, _, rfl, rfl⟩, hs1⟩
  | ok n =>
    rw [hp] at hr
    obtain ⟨rfl, rfl⟩ := hr
    have hrg := parseI_range hp
    have no : (∀ k, numR s = some k → False) → (∃ (m : Int) (ok : Bool), (Ending.returned (.tuple #[.int .i64 n, .bool false])) = .returned (.tuple #[.int .i64 m, .bool ok]) ∧ (match numR s with
      | some k => m = (k : Int) ∧ ok = true
      | none => ok = false)) ∧ Still w w1 := by
      intro h
      cases hn : numR s with
      | none => exact ⟨⟨_, _, rfl, rfl⟩, hs1⟩
      | some k => exact (h k hn).elim
    refine .inl ⟨_, _, rfl, rfl, ?_⟩
    refine bsel_of (fun h0 => ?_) (fun h0 => ?_)
    rotate_left
    · refine no fun k hk => ?_
      have hpk := parseI_dec hk
      rw [hp] at hpk
      injection hpk with hpk
      have := of_decide_eq_false h0
      omega
    have h0 : 0 ≤ n := of_decide_eq_true h0
    obtain ⟨u, rfl⟩ : ∃ u : Nat, n = (u : Int) := ⟨n.toNat, by omega⟩
    refine bsel_of (fun h9 => ?_) (fun h9 => ?_)
    rotate_left
    · refine no fun k hk => ?_
      have := (numR_some hk).2
      have := of_decide_eq_false h9
      omega
    have h9 : s.length ≤ 9 := by have := of_decide_eq_true h9; omega
    refine (itoa_spec (he.still hs1) (u : Int) hrg.1 hrg.2).mono ?_
    rintro _ w2 ⟨rfl, hs2⟩
    refine .inl ⟨_, rfl, ?_⟩
    rw [Lib.itoa_nonneg]
    cases hn : numR s with
    | some k =>
      have hpk := parseI_dec hn
      rw [hp] at hpk
      injection hpk with hpk
      obtain rfl : u = k := by omega
      exact ⟨⟨_, _, rfl, rfl, decide_eq_true (numR_some hn).1⟩, hs1.trans hs2⟩
    | none =>
      refine ⟨⟨_, _, rfl, decide_eq_false fun e => ?_⟩, hs1.trans hs2⟩
      have e : dec u = s := e
      have h := numR_dec (n := u) (by rw [e]; exact h9)
      rw [e, hn] at h
      cases h
theorem cut_spec (s : Txt) (hs : s.length ≤ 140737488355328) :
    Calls Tryd.prog fn_strings_Cut #[.string (S s), .string (S [58])] w (fun e w' => e = .returned (.tuple #[.string (S (s.take (colon s))), .string (S (s.drop (colon s + 1))), .bool (decide (colon s < s.length))]) ∧ Still w w') := by
  refine strings_Cut_calls _ _ _ _ ?_
  have h : Calls Tryd.prog fn_internal_stringslite_Cut #[.string (S s), .string (S [58])] w (fun e w' => e = .returned (.tuple #[.string (S (s.take (colon s))), .string (S (s.drop (colon s + 1))), .bool (decide (colon s < s.length))]) ∧ Still w w') := by
    refine internal_stringslite_Cut_calls _ _ _ _ ?_
    refine (Tryd.stringslite_Index_one (S s) 58 w).mono ?_
    rintro _ w1 ⟨rfl, rfl⟩
    have e : Lib.indexByte (S s).data.toList 58 = if colon s < s.length then (colon s : Int) else -1 := index_colon s
    rw [e]
    have hcl := colon_le s
    by_cases hc : colon s < s.length
    · rw [if_pos hc, decide_eq_true hc]
      have e1 : IntKind.i64.wrap ((colon s : Int) + (([58] : List UInt8).length : Int)) = ((colon s + 1 : Nat) : Int) := by
        simp only [List.length_cons, List.length_nil]
        rw [wrap_i64 (by omega) (by omega)]
        omega
      refine .inl ⟨_, rfl, bsel_of (fun _ => ?_) (fun h => by have := of_decide_eq_false h; omega)⟩
      rw [e1]
      exact ⟨by omega, by omega, by omega, by omega, rfl, (Still.refl _).toDrew⟩
    · rw [if_neg hc, decide_eq_false hc]
      refine .inl ⟨_, rfl, bsel_of (fun h => absurd h (by decide)) (fun _ => ⟨?_, Still.refl _⟩)⟩
      rw [List.take_of_length_le (by omega), List.drop_of_length_le (by omega)]
  refine h.mono ?_
  rintro _ w1 ⟨rfl, hs1⟩
  exact .inl ⟨_, _, _, rfl, rfl, hs1⟩
def DecAs (s : Txt) (w : World) (p : Option Addr) (n : Nat) (k : Int) : Prop := ∃ l, StrsAt w p n l ∧ ((k = 0 ∧ decode s = some l) ∨ (k = 20 ∧ n = 0 ∧ decode s = none))
theorem DecAs.still {s : Txt} {w' : World} {p : Option Addr} {n : Nat} {k : Int} (h : DecAs s w p n k) (hm : Still w w') : DecAs s w' p n k := by
  obtain ⟨l, h1, h2⟩ := h
  exact ⟨l, h1.still hm, h2⟩
theorem DecAs.bad {s : Txt} (h : decode s = none) (w : World) : DecAs s w none 0 20 := ⟨[], StrsAt.nil w, .inr ⟨rfl, rfl, h⟩⟩
theorem decode_spec (he : Env w) (s : Txt) (hs : s.length ≤ 1000000) :
    Calls Tryd.prog fn_tuple_Decode #[.string (S s)] w (fun e w' => (∃ p n C k, e = .returned (.tuple #[.slice p n C, .int .i64 k]) ∧ DecAs s w' p n k) ∧ Still w w') := by
  refine tuple_Decode_calls _ _ _ ?_
  refine ⟨fun s1 l lL lC w1 => ∃ (acc : List Txt) (f : Nat), lL = acc.length ∧ decode s = decT f s1 acc ∧ s1.length < f ∧ acc.length + s1.length ≤ s.length ∧ Owns w1 w.heap.size 9 1 (.slice l lL lC) lL (strs acc) ∧ Still w w1, fun s1 _ _ _ _ => s1.length,
    ⟨[], s.length + 1, rfl, rfl, Nat.lt_succ_self _, by simp, Owns.nil _ _ _ _, Still.refl _⟩, ?_⟩
  rintro s1 l _ lC _ w1 ⟨acc, f, rfl, hd, hf, hal, ho, hst⟩
  cases f with
  | zero => omega
  | succ f =>
  simp only [decT] at hd
  refine bsel_of (fun h => ?_) (fun h => ?_)
  · have hne : s1 ≠ [] := by intro e; rw [decide_eq_true e] at h; cases h
    rw [if_neg hne] at hd
    refine (cut_spec s1 (by omega)).mono ?_
    rintro _ w2 ⟨rfl, hs2⟩
    refine .inl ⟨_, _, _, rfl, ?_⟩
    have hcl := colon_le s1
    refine (number_spec (he.still (hst.trans hs2)) _ (by rw [List.length_take]; omega)).mono ?_
    rintro _ w3 ⟨⟨m, ok, rfl, hm⟩, hs3⟩
    refine .inl ⟨_, _, rfl, ?_⟩
    have hst3 := (hst.trans hs2).trans hs3
    have fail : step s1 = none → (∃ p n C k, (Ending.returned (.tuple #[.slice none 0 0, .int .i64 20])) = .returned (.tuple #[.slice p n C, .int .i64 k]) ∧ DecAs s w3 p n k) ∧ Still w w3 := by
      intro h
      rw [h] at hd
      exact ⟨⟨_, _, _, _, rfl, DecAs.bad hd w3⟩, hst3⟩
    unfold step at fail
    refine bsel_of (fun hq => ?_) (fun hq => ?_)
    · have hq : ¬ colon s1 < s1.length := by intro e; rw [decide_eq_true e] at hq; cases hq
      refine fail ?_
      split
      · rfl
      · rw [if_neg]
        intro e
        have := (List.getElem?_eq_some_iff.1 e).1
        omega
    have hq : colon s1 < s1.length := by
      by_cases e : colon s1 < s1.length
      · exact e
      · rw [decide_eq_false e] at hq; cases hq
    refine bsel_of (fun hk => ?_) (fun hk => ?_)
    · obtain rfl : ok = false := by cases ok with
        | true => cases hk
        | false => rfl
      refine fail ?_
      cases hn : numR (s1.take (colon s1)) with
      | none => rfl
      | some n => rw [hn] at hm; cases hm.2
    obtain rfl : ok = true := by cases ok with
      | true => rfl
      | false => cases hk
    cases hn : numR (s1.take (colon s1)) with
    | none => rw [hn] at hm; cases hm
    | some n =>
    rw [hn] at hm fail
    dsimp only at fail
    obtain ⟨rfl, _⟩ := hm
    have hdl : (s1.drop (colon s1 + 1)).length = s1.length - (colon s1 + 1) := List.length_drop
    refine bsel_of (fun h1 => ?_) (fun h1 => ?_)
    · have h1 := of_decide_eq_true h1
      refine fail (if_neg fun e => ?_)
      have := (List.getElem?_eq_some_iff.1 e).1
      omega
    have h1 := of_decide_eq_false h1
    have h1 : colon s1 + 1 + n < s1.length := by omega
    have hb : (s1.drop (colon s1 + 1))[n]? = some s1[colon s1 + 1 + n] := by rw [List.getElem?_drop]; exact getD_some h1
    refine ⟨by omega, _, by rw [Int.toNat_natCast]; exact hb, bsel_of (fun h2 => ?_) (fun h2 => ?_)⟩
    · refine fail (if_neg fun e => ?_)
      rw [getD_some h1] at e
      rw [Option.some.inj e] at h2
      exact absurd h2 (by decide)
    have h2 : s1[colon s1 + 1 + n]? = some 44 := by
      rw [getD_some h1]
      congr 1
      exact (byte_eq (b := 44)).1 (nd h2)
    have hstep : step s1 = some ((s1.drop (colon s1 + 1)).take n, s1.drop (colon s1 + 2 + n)) := by
      unfold step
      rw [hn]
      dsimp only
      rw [if_pos h2]
    rw [hstep] at hd
    dsimp only at hd
    have e1 : IntKind.i64.wrap ((n : Int) + 1) = ((n + 1 : Nat) : Int) := by rw [wrap_i64 (by omega) (by omega)]; omega
    have hf2 := step_form hstep
    refine ⟨by omega, by omega, push1 (ho.still (hs2.trans hs3)) (by have := hst3.size; omega) rfl (fun u hu => by simp at hu; subst hu; rfl) (by omega) (by omega) fun p' c' w4 ho4 hm4 => ?_⟩
    rw [e1]
    refine ⟨by omega, by omega, ?_⟩
    rw [Int.toNat_natCast] at ho4
    rw [Int.toNat_natCast, List.drop_drop, show colon s1 + 1 + (n + 1) = colon s1 + 2 + n by omega]
    refine ⟨⟨acc ++ [(s1.drop (colon s1 + 1)).take n], f, by simp, hd, by omega, by simp only [List.length_append, List.length_cons, List.length_nil]; omega, ?_, ?_⟩, hf2.2.1⟩
    · rw [strs_append]
      exact ho4
    · exact Still.own hst3 (ho.still (hs2.trans hs3)) (Nat.le_refl _) hm4
  · have hne : s1 = [] := by
      by_cases e : s1 = []
      · exact e
      · rw [decide_eq_false e] at h; cases h
    rw [if_pos hne] at hd
    exact ⟨⟨_, _, _, _, rfl, acc, StrsAt.of ho, .inl ⟨rfl, hd⟩⟩, hst⟩
theorem calleeK_mk {g : FuncId} {first cap : List Value} {K : FuncId → List Value → List Value → Prop} (h : K g first cap) : calleeK (.func (.func g) ⟨first⟩ ⟨cap⟩) K := h
theorem liesB0 : LiesB 63 2 0 := by unfold LiesB; kernel_rfl
theorem encode1_spec {w0 : World} {g B : Nat} {cs : List Value} {v : Value} {bs : List UInt8} (he : Env w0) (h0 : Still w0 w) (hb : BldAt w 63 g 0 B cs v bs) (hcs : cs.length = 2) (hg : w0.heap.size ≤ g) (hB0 : w0.heap.size ≤ B) (hB : B ≤ w.heap.size)
    (x : Txt) (hx : (dec x.length).length ≤ 9) (hbs : bs.length + x.length ≤ 70000000000000) :
    Calls Tryd.prog fn_tuple_Encode_1 #[.pointer (some ⟨g, 0, none⟩), .string (S x)] w (fun e w' => e = .returned (.pointer (some ⟨g, 0, none⟩)) ∧ ∃ cs' v', cs'.length = 2 ∧ BldAt w' 63 g 0 B cs' v' (bs ++ one x) ∧ Still w0 w' ∧ w.heap.size ≤ w'.heap.size) := by
  refine tuple_Encode_1_calls _ _ _ _ ?_
  refine (itoa_spec (he.still h0) (x.length : Int) (by omega) (by omega)).mono ?_
  rintro _ w1 ⟨rfl, hs1⟩
  rw [Lib.itoa_nonneg]
  have hdx : (Lib.decDigits x.length).length ≤ 9 := hx
  have ho : ((((dec x.length) ++ [58]) ++ x) ++ [44]).length ≤ 11 + x.length := by simp only [List.length_append, List.length_cons, List.length_nil]; omega
  refine .inl ⟨_, rfl, ?_⟩
  have el1 : ([58] : List UInt8).length = 1 := rfl
  have el2 : ([44] : List UInt8).length = 1 := rfl
  refine ⟨by rw [el1]; omega, by rw [List.length_append, el1]; omega, by rw [List.length_append, List.length_append, el1, el2]; omega, ?_⟩
  refine (writeString_spec (hb.still hs1) (by rw [hcs]; exact liesB0) (one x) (by have := hs1.size; omega) (by have : (one x).length ≤ 11 + x.length := ho; omega)).mono ?_
  rintro _ w2 ⟨rfl, v', h1, h2⟩
  refine .inl ⟨_, _, rfl, rfl, rfl, _, v', by simp [hcs], h1, ?_, ?_⟩
  · refine Mod.trans (h0.trans hs1) h2 (fun _ h => h) (fun i hi e => ?_)
    rcases e with rfl | e
    · omega
    · have := hb.own.ownLt e
      omega
  · have := hs1.size
    have := h2.size
    omega
set_option maxRecDepth 10000 in
theorem fold_spec {w0 : World} {g B : Nat} {cs : List Value} (he : Env w0) (h0 : Still w0 w) (hb : BldAt w 63 g 0 B cs (.slice none 0 0) []) (hcs : cs.length = 2) (hg : w0.heap.size ≤ g) (hB0 : w0.heap.size ≤ B) (hB : B ≤ w.heap.size)
    {l : Option Addr} {lL lC : Nat} {ls : List Txt} (hl : StrsAt w0 l lL ls) (ht : total ls ≤ 100000) :
    Calls Tryd.prog fn_tuple_fold_string_strings_Builder #[.slice l lL lC, .pointer (some ⟨g, 0, none⟩), .func (.func fn_tuple_Encode_1) #[] #[]] w (fun e w' => e = .returned (.pointer (some ⟨g, 0, none⟩)) ∧ ∃ cs' v', BldAt w' 63 g 0 B cs' v' (encode ls) ∧ Still w0 w') := by
  refine tuple_fold_string_strings_Builder_calls _ _ _ _ _ _ _ ?_
  have hn9 := few_nine ht
  have hlen := hl.1
  have htl := total_length ls
  refine ⟨fun r x w1 => ∃ (i : Nat) (cs : List Value) (v : Value), r = some ⟨g, 0, none⟩ ∧ x = (i : Int) ∧ i ≤ lL ∧ cs.length = 2 ∧ BldAt w1 63 g 0 B cs v (encode (ls.take i)) ∧ Still w0 w1 ∧ B ≤ w1.heap.size, fun _ x _ => lL - x.toNat,
    ⟨0, cs, _, rfl, rfl, Nat.zero_le _, hcs, hb, h0, hB⟩, ?_⟩
  rintro _ _ _ w1 ⟨i, cs1, v, rfl, rfl, hi, hcs1, hb1, hs1, hB1⟩
  refine bsel_of (fun hx => ?_) (fun hx => ?_)
  · have hx : i < lL := by have := of_decide_eq_true hx; omega
    have e1 : IntKind.i64.wrap ((i : Int) + 1) = ((i + 1 : Nat) : Int) := by rw [wrap_i64 (by omega) (by omega)]; omega
    obtain ⟨a, rfl, hc⟩ := (hl.still hs1).get hx
    refine ⟨by omega, by omega, _, by rw [Int.toNat_natCast, Nat.mul_one]; exact hc, calleeK_mk (g := fn_tuple_Encode_1) (first := []) (cap := []) ?_⟩
    refine bsel_of (fun _ => ?_) (fun h => absurd h (by rw [show callable Tryd.prog fn_tuple_Encode_1 = true by kernel_rfl]; decide))
    have hil : i < ls.length := by omega
    have htk := take_snoc hil
    have hmem : ls[i] ∈ ls := List.getElem_mem hil
    have hel := encode_len (l := ls.take i) (fun x hx => hn9 x (List.mem_of_mem_take hx))
    have htt := total_take_le ls i
    have hm := total_mem hmem
    refine (encode1_spec he hs1 hb1 hcs1 hg hB0 hB1 ls[i] (hn9 _ hmem) (by omega)).mono ?_
    rintro _ w2 ⟨rfl, cs2, v2, hcs2, hb2, hs2, hz2⟩
    refine .inl ⟨_, rfl, ?_⟩
    rw [e1]
    refine ⟨⟨i + 1, cs2, v2, rfl, rfl, hx, hcs2, ?_, hs2, by omega⟩, by dsimp only; omega⟩
    rw [htk, encode_append]
    have : encode [ls[i]] = one ls[i] := by simp [encode]
    rw [this]
    exact hb2
  · have hx : i = ls.length := by have := of_decide_eq_false hx; omega
    rw [hx, List.take_length] at hb1
    exact ⟨rfl, _, _, hb1, hs1⟩
set_option maxRecDepth 10000 in
theorem encode_spec (he : Env w) {l : Option Addr} {lL lC : Nat} {ls : List Txt} (hl : StrsAt w l lL ls) (ht : total ls ≤ 100000) :
    Calls Tryd.prog fn_tuple_Encode #[.slice l lL lC] w (fun e w' => e = .returned (.string (S (encode ls))) ∧ Still w w') := by
  refine tuple_Encode_calls _ _ _ _ _ ?_
  refine allocK fun w1 hr1 hs1 hz1 => ?_
  refine (fold_spec (B := w1.heap.size) he hs1 (BldAt.fresh hr1 rfl rfl) rfl (Nat.le_refl _) (by omega) (Nat.le_refl _) hl ht).mono ?_
  rintro _ w2 ⟨rfl, cs2, v2, hb2, hs2⟩
  refine .inl ⟨_, rfl, ?_⟩
  have hel := encode_len (few_nine ht)
  refine (string_spec hb2 (by omega)).mono ?_
  rintro _ w3 ⟨rfl, hm3⟩
  refine .inl ⟨_, rfl, rfl, Mod.trans hs2 hm3 (fun _ h => h) (fun i hi e => ?_)⟩
  have := hb2.own.ownLt e
  omega
end Go.Proofs.YtddkalfffhkkkaaDoor
namespace Go.Proofs.YtddkalfffhkkkaaDoor
open Go.RowKit Vc
def cnt (n : Nat) : Nat := (n + 63) / 64
def hd (m : UInt8) (n : Nat) (t : Txt) : Txt := m :: encode [dec n, dec t.length, (sha t).take 16]
def trimZ (s : Txt) : Txt := Lib.trimRightB s 0
def sec (s : St) (k : Nat) : Txt := if k < s.n then rowF s.F (k * 64) 64 else []
def sizeN (b : Option Nat) : Option Nat := match b with
  | some n => if n ≤ 100000 then some n else none
  | none => none
def sizeD (l : Option (List Txt)) : Option Nat := match l with
  | some [_, b, _] => sizeN (numR b)
  | _ => none
def sizeR (h : Txt) : Option Nat := match trimZ h with
  | [] => none
  | m :: r => if m = 49 then sizeD (decode r) else none
def readR (s : St) (at' n : Nat) : Option Txt := match sizeR (sec s at') with
  | none => none
  | some k => if s.n ≤ at' + cnt k then none else if hd 49 n (rowF s.F ((at' + 1) * 64) k) = trimZ (sec s at') then some (rowF s.F ((at' + 1) * 64) k) else none
def openF : Nat → St → List Txt → Nat → List Txt × Nat
  | 0, _, l, k => (l, k)
  | f + 1, s, l, k => match readR s k l.length with
    | none => (l, k)
    | some t => openF f s (l ++ [t]) (k + 1 + cnt t.length)
def openR (s : St) : List Txt × Nat := openF (s.n + 1) s [] 0
def chunks (k : Nat) (t : Txt) : List (Nat × Txt) := (List.range (cnt t.length)).map fun i => (k + i, (t.drop (i * 64)).take 64)
def wrs (s : St) (k n : Nat) (t : Txt) : List (Nat × Txt) :=
  (if k + 1 + cnt t.length < s.n then [(k + 1 + cnt t.length, [])] else []) ++ (k, hd 48 n t) :: (chunks (k + 1) t ++ [(k, hd 49 n t)])
def runW (s : St) : List (Nat × Txt) → Int × St
  | [] => (0, s)
  | (k, x) :: r => if (s.write k x).1 = 0 then runW (s.write k x).2 r else s.write k x
structure Js where
  s : St
  l : List Txt
  k : Nat
def Js.append (j : Js) (t : Txt) : Int × Js :=
  if 100000 < t.length then (2, j)
  else if j.s.n ≤ j.k + cnt t.length then (12, j)
  else if (runW j.s (wrs j.s j.k j.l.length t)).1 = 0 then (0, ⟨(runW j.s (wrs j.s j.k j.l.length t)).2, j.l ++ [t], j.k + 1 + cnt t.length⟩)
  else ((runW j.s (wrs j.s j.k j.l.length t)).1, ⟨(runW j.s (wrs j.s j.k j.l.length t)).2, j.l, j.k⟩)
def Js.clear (j : Js) : Int × Js := if (j.s.write 0 []).1 = 0 then (0, ⟨(j.s.write 0 []).2, [], 0⟩) else ((j.s.write 0 []).1, ⟨(j.s.write 0 []).2, j.l, j.k⟩)
def Js.opened (s : St) : Js := ⟨s, (openR s).1, (openR s).2⟩
structure Js.Ok (j : Js) : Prop where
  s : j.s.Ok
  k : j.k ≤ j.s.n
  l : j.l.length ≤ j.k
theorem cnt_le {n : Nat} (h : n ≤ 100000) : cnt n ≤ 1563 := by unfold cnt; omega
theorem sec_len (s : St) (k : Nat) : (sec s k).length ≤ 64 := by
  unfold sec
  split
  · simp
  · simp
theorem trimZ_len (s : Txt) : (trimZ s).length ≤ s.length := by
  have := (List.dropWhile_sublist (p := (· == (0 : UInt8))) (l := s.reverse)).length_le
  simpa [trimZ, Lib.trimRightB] using this
theorem sha_len (s : Txt) : (sha s).length = 64 := rfl
theorem hd_total (n : Nat) (t : Txt) (hn : n ≤ 5000) (ht : t.length ≤ 100000) : total [dec n, dec t.length, (sha t).take 16] ≤ 100000 := by
  have h1 := dec_len9 (n := n) (by omega)
  have h2 := dec_len9 (n := t.length) (by omega)
  simp only [total, List.map_cons, List.map_nil, List.sum_cons, List.sum_nil, List.length_take, sha_len]
  omega
theorem sizeR_le {h : Txt} {n : Nat} (e : sizeR h = some n) : n ≤ 100000 := by
  unfold sizeR at e
  split at e
  · cases e
  · split at e
    · unfold sizeD at e
      split at e
      · unfold sizeN at e
        split at e
        · split at e
          · injection e with e; omega
          · cases e
        · cases e
      · cases e
    · cases e
theorem readR_some {s : St} {k n : Nat} {t : Txt} (h : readR s k n = some t) : k + cnt t.length < s.n ∧ t.length ≤ 100000 := by
  unfold readR at h
  split at h
  · cases h
  · rename_i m hm
    split at h
    · cases h
    · split at h
      · obtain rfl := Option.some.inj h
        rw [rowF_length]
        exact ⟨by omega, sizeR_le hm⟩
      · cases h
theorem write_ok {s : St} (h : s.Ok) (k : Int) (t : Txt) : (s.write k t).2.Ok ∧ (s.write k t).2.n = s.n := by
  have h0 := h.p0
  have h1 := h.p1
  unfold St.write
  split
  · split
    · exact ⟨⟨h.n1, h.n2, h0, h1, h.m0, h.m1⟩, rfl⟩
    · split
      · exact ⟨⟨h.n1, h.n2, by dsimp only [St.put]; omega, by dsimp only [St.put]; omega, h.m0, h.m1⟩, rfl⟩
      · exact ⟨⟨h.n1, h.n2, h0, h1, Int.le_refl _, by dsimp only; omega⟩, rfl⟩
  · exact ⟨h, rfl⟩
theorem runW_ok : ∀ (l : List (Nat × Txt)) {s : St}, s.Ok → (runW s l).2.Ok ∧ (runW s l).2.n = s.n
  | [], s, h => ⟨h, rfl⟩
  | (k, x) :: r, s, h => by
    obtain ⟨h1, h2⟩ := write_ok h k x
    simp only [runW]
    split
    · obtain ⟨h3, h4⟩ := runW_ok r h1
      exact ⟨h3, h4.trans h2⟩
    · exact ⟨h1, h2⟩
theorem Js.append_ok {j : Js} (h : j.Ok) (t : Txt) : (j.append t).2.Ok ∧ (j.append t).2.s.n = j.s.n := by
  obtain ⟨h1, h2⟩ := runW_ok (wrs j.s j.k j.l.length t) h.s
  have := h.k
  have := h.l
  unfold Js.append
  split
  · exact ⟨h, rfl⟩
  · split
    · exact ⟨h, rfl⟩
    · split
      · exact ⟨⟨h1, by dsimp only; omega, by dsimp only; simp; omega⟩, h2⟩
      · exact ⟨⟨h1, by dsimp only; omega, h.l⟩, h2⟩
end Go.Proofs.YtddkalfffhkkkaaDoor
namespace Go.Proofs.YtddkalfffhkkkaaDoor
open Go.RowKit Vc
variable {w w0 : World}
theorem cnt_wrap (n : Nat) (hn : n ≤ 1000000) : IntKind.i64.wrap (Int.tdiv (IntKind.i64.wrap ((IntKind.i64.wrap ((n : Int) + 64)) - 1)) 64) = (cnt n : Nat) := by
  rw [wrap_i64 (n := (n : Int) + 64) (by omega) (by omega), wrap_i64 (n := (n : Int) + 64 - 1) (by omega) (by omega)]
  have e : (n : Int) + 64 - 1 = ((n + 63 : Nat) : Int) := by omega
  rw [e, show (64 : Int) = ((64 : Nat) : Int) from rfl, ← Int.ofNat_tdiv, wrap_i64 (by omega) (by omega)]
  rfl
theorem sectors_spec (n : Nat) (hn : n ≤ 1000000) : Calls Tryd.prog fn_journal_sectors #[.int .i64 (n : Int)] w (fun e w' => e = .returned (.int .i64 (cnt n : Nat)) ∧ w' = w) := by
  refine journal_sectors_calls _ _ _ ?_
  exact ⟨by decide, by rw [cnt_wrap n hn], rfl⟩
theorem head_spec (he : Env w0) (h0 : Still w0 w) (m : UInt8) (n : Nat) (t : Txt) (hn : n ≤ 5000) (ht : t.length ≤ 100000) :
    Calls Tryd.prog fn_journal_head #[.string (S [m]), .int .i64 (n : Int), .string (S t)] w (fun e w' => e = .returned (.string (S (hd m n t))) ∧ Still w w') := by
  refine journal_head_calls _ _ _ _ _ ?_
  refine (itoa_spec (he.still h0) (n : Int) (by omega) (by omega)).mono ?_
  rintro _ w1 ⟨rfl, s1⟩
  rw [Lib.itoa_nonneg]
  refine .inl ⟨_, rfl, (itoa_spec (he.still (h0.trans s1)) (t.length : Int) (by omega) (by omega)).mono ?_⟩
  rintro _ w2 ⟨rfl, s2⟩
  rw [Lib.itoa_nonneg]
  refine .inl ⟨_, rfl, (sum_spec t (by omega)).mono ?_⟩
  rintro _ w3 ⟨rfl, s3⟩
  have s03 := (s1.trans s2).trans s3
  refine .inl ⟨_, rfl, by decide, by rw [sha_len]; decide, allocK fun w4 r4 s4 z4 => ?_⟩
  have s04 := s03.trans s4
  refine (encode_spec (he.still (h0.trans s04)) (ls := [dec n, dec t.length, (sha t).take 16]) (StrsAt.row (l := [dec n, dec t.length, (sha t).take 16]) r4) (hd_total n t hn ht)).mono ?_
  rintro _ w5 ⟨rfl, s5⟩
  have hl := encode_len (few_nine (hd_total n t hn ht))
  have hl2 := hd_total n t hn ht
  exact .inl ⟨_, rfl, by simp only [List.length_cons, List.length_nil]; omega, rfl, s04.trans s5⟩
theorem trim_spec (s : Txt) (hs : s.length ≤ 1000000) : Calls Tryd.prog fn_strings_TrimRight #[.string (S s), .string (S [0])] w (fun e w' => e = .returned (.string (S (trimZ s))) ∧ w' = w) :=
  Tryd.strings_TrimRight_one (S s) 0 (by decide) w (by show s.length ≤ _; omega)
def cutOne (s : Txt) : Txt := match s with
  | [] => []
  | m :: r => if m = 49 then r else m :: r
theorem cutOne_spec (s : Txt) : Calls Tryd.prog fn_strings_CutPrefix #[.string (S s), .string (S [49])] w (fun e w' => e = .returned (.tuple #[.string (S (cutOne s)), .bool (decide (s.head? = some 49))]) ∧ w' = w) := by
  refine (Tryd.strings_CutPrefix (S s) (S [49]) w).mono ?_
  rintro _ w' ⟨rfl, rfl⟩
  have e1 : Lib.hasPrefix (S s).data.toList (S [49]).data.toList = decide (s.head? = some 49) := by
    cases s with
    | nil => rfl
    | cons m r =>
      show Lib.hasPrefix (m :: r) [49] = _
      rw [Bool.eq_iff_iff]
      simp [Lib.hasPrefix]
      exact eq_comm
  have e2 : Lib.trimPrefix (S s).data.toList (S [49]).data.toList = cutOne s := by
    cases s with
    | nil => rfl
    | cons m r =>
      show Lib.trimPrefix (m :: r) [49] = _
      unfold Lib.trimPrefix cutOne
      by_cases h : m = 49
      · simp [Lib.hasPrefix, h]
      · simp [Lib.hasPrefix, h, Ne.symm h]
  rw [e1, e2]
  exact ⟨rfl, rfl⟩
def SizeAs (h : Txt) (m : Int) (ok : Bool) : Prop := match sizeR h with
  | some n => m = (n : Int) ∧ ok = true
  | none => ok = false
theorem size_spec (he : Env w0) (h0 : Still w0 w) (h : Txt) (hl : h.length ≤ 64) :
    Calls Tryd.prog fn_journal_size #[.string (S h)] w (fun e w' => (∃ (m : Int) (ok : Bool), e = .returned (.tuple #[.int .i64 m, .bool ok]) ∧ SizeAs h m ok) ∧ Still w w') := by
  refine journal_size_calls _ _ _ ?_
  refine (trim_spec h (by omega)).mono ?_
  rintro _ w1 ⟨rfl, rfl⟩
  have hz := trimZ_len h
  refine .inl ⟨_, rfl, (cutOne_spec (trimZ h)).mono ?_⟩
  rintro _ w2 ⟨rfl, rfl⟩
  have hcl : (cutOne (trimZ h)).length ≤ 64 := by
    unfold cutOne
    split
    · exact Nat.zero_le _
    · rename_i m r e
      rw [e] at hz
      simp only [List.length_cons] at hz
      split
      · omega
      · simp only [List.length_cons]; omega
  refine .inl ⟨_, _, rfl, (decode_spec (he.still h0) (cutOne (trimZ h)) (by omega)).mono ?_⟩
  rintro _ w3 ⟨⟨p, n, C, k, rfl, l, hst, hk⟩, s3⟩
  refine .inl ⟨_, _, _, _, rfl, ?_⟩
  have bad : ∀ {w' : World}, sizeR h = none → Still w2 w' → (∃ (m : Int) (ok : Bool), (Ending.returned (.tuple #[.int .i64 0, .bool false])) = .returned (.tuple #[.int .i64 m, .bool ok]) ∧ SizeAs h m ok) ∧ Still w2 w' := by
    intro w' e hs
    exact ⟨⟨_, _, rfl, by unfold SizeAs; rw [e]⟩, hs⟩
  by_cases h49 : (trimZ h).head? = some 49
  case neg =>
    rw [decide_eq_false h49]
    refine bad ?_ s3
    unfold sizeR
    split
    · rfl
    · rename_i m r e
      rw [e] at h49
      rw [if_neg (fun e => h49 (by simp [e]))]
  rw [decide_eq_true h49]
  obtain ⟨r, hr⟩ : ∃ r, trimZ h = 49 :: r := by
    cases e : trimZ h with
    | nil => rw [e] at h49; cases h49
    | cons m r => rw [e] at h49; exact ⟨r, by simpa using h49⟩
  have hcut : cutOne (trimZ h) = r := by rw [hr]; rfl
  rw [hcut] at hk
  have hsz : sizeR h = sizeD (decode r) := by
    unfold sizeR
    rw [hr]
    simp only [if_true]
  refine bsel_of (fun hx => by cases hx) (fun _ => ?_)
  refine bsel_of (fun hx => ?_) (fun hx => ?_)
  · refine bad ?_ s3
    rcases hk with ⟨rfl, _⟩ | ⟨_, _, hd⟩
    · simp at hx
    · rw [hsz, hd]; rfl
  have hk0 : k = 0 := by simpa using hx
  obtain ⟨_, hd⟩ : k = 0 ∧ decode r = some l := by
    rcases hk with h | ⟨h, _⟩
    · exact h
    · omega
  rw [hd] at hsz
  refine bsel_of (fun hx => ?_) (fun hx => ?_)
  · refine bad ?_ s3
    have hne : ¬ (n : Int) = 3 := by simpa using hx
    rw [hsz]
    unfold sizeD
    split
    · rename_i a b c e
      have := hst.1
      rw [Option.some.inj e] at this
      simp at this
      omega
    · rfl
  have hn3 : n = 3 := by
    have : (n : Int) = 3 := by simpa using hx
    omega
  subst hn3
  match l, hst.1 with
  | [x, b, y], _ =>
    obtain ⟨a, rfl, hc⟩ := hst.get (k := 1) (by decide)
    have hbl : b.length ≤ 1000000 := by
      have h1 := decode_total hd
      have h2 : r.length ≤ 64 := by rw [← hcut]; exact hcl
      simp only [total, List.map_cons, List.map_nil, List.sum_cons, List.sum_nil] at h1
      omega
    refine ⟨by decide, by decide, _, hc, (number_spec (he.still (h0.trans s3)) b (by omega)).mono ?_⟩
    rintro _ w4 ⟨⟨m, ok, rfl, hm⟩, s4⟩
    refine .inl ⟨_, _, rfl, ?_⟩
    have hsz : sizeR h = sizeN (numR b) := hsz
    refine bsel_of (fun hok => ?_) (fun hok => ?_)
    · refine ⟨⟨_, _, rfl, ?_⟩, s3.trans s4⟩
      unfold SizeAs
      rw [hsz]
      cases hb : numR b with
      | none => rw [hb] at hm; dsimp only at hm; rw [hm] at hok; cases hok
      | some v =>
        rw [hb] at hm
        obtain ⟨rfl, _⟩ := hm
        unfold sizeN
        by_cases hv : v ≤ 100000
        · simp only [if_pos hv]
          exact ⟨trivial, decide_eq_true (by omega)⟩
        · simp only [if_neg hv]
          exact decide_eq_false (by omega)
    · refine ⟨⟨_, _, rfl, ?_⟩, s3.trans s4⟩
      unfold SizeAs
      rw [hsz]
      cases hb : numR b with
      | none => rfl
      | some v =>
        rw [hb] at hm
        obtain ⟨_, hm⟩ := hm
        rw [hm] at hok
        cases hok
end Go.Proofs.YtddkalfffhkkkaaDoor
namespace Go.Proofs.YtddkalfffhkkkaaDoor
open Go.RowKit Vc
variable {w w0 : World}
structure Jr (w0 w : World) (gj g b : Nat) (rp : Option Nat) (j : Js) : Prop where
  dev : Dev w g b j.s
  top : ∃ p c, Row w gj ty_journal_Journal ⟨[.pointer (some ⟨g, 0, none⟩), .slice p j.l.length c, .int .i64 (j.k : Int)]⟩ ∧ Owns w w0.heap.size ty_string 1 (.slice p j.l.length c) j.l.length (strs j.l) ∧ (Value.slice p j.l.length c).ownBlock = rp
  low : w0.heap.size ≤ gj ∧ w0.heap.size ≤ g ∧ w0.heap.size ≤ b
def Foot (gj g b : Nat) (rp : Option Nat) (k : Nat) : Prop := k = g ∨ k = b ∨ k = gj ∨ rp = some k
section
variable {gj g b : Nat} {rp : Option Nat} {j : Js}
theorem Jr.mod {w' : World} {T : Nat → Prop} (h : Jr w0 w gj g b rp j) (hm : Mod T w w') (hT : ∀ k, Foot gj g b rp k → ¬ T k) : Jr w0 w' gj g b rp j := by
  obtain ⟨p, c, h1, h2, h3⟩ := h.top
  exact ⟨h.dev.mod hm (hT _ (.inl rfl)) (hT _ (.inr (.inl rfl))), ⟨p, c, h1.mod hm (hT _ (.inr (.inr (.inl rfl)))), h2.mod hm (fun k hk => hT k (.inr (.inr (.inr (h3.symm.trans hk))))), h3⟩, h.low⟩
theorem Jr.still {w' : World} (h : Jr w0 w gj g b rp j) (hm : Still w w') : Jr w0 w' gj g b rp j := h.mod hm (fun _ _ h => h)
theorem Jr.drew (h : Jr w0 w gj g b rp j) : Jr w0 w.drew gj g b rp j := h.still (Still.refl w).toDrew
theorem Jr.foot (h : Jr w0 w gj g b rp j) {k : Nat} (hk : Foot gj g b rp k) : w0.heap.size ≤ k ∧ k < w.heap.size := by
  obtain ⟨p, c, h1, h2, h3⟩ := h.top
  rcases hk with rfl | rfl | rfl | hk
  · exact ⟨h.low.2.1, h.dev.top.lt⟩
  · exact ⟨h.low.2.2, h.dev.bytes.lt⟩
  · exact ⟨h.low.1, h1.lt⟩
  · exact h2.lt k (h3.trans hk)
theorem Jr.stays (h : Jr w0 w gj g b rp j) {w' : World} (h0 : Still w0 w) (hm : Mod (Foot gj g b rp) w w') : Still w0 w' := Mod.trans h0 hm (fun _ h => h) (fun i hi hk => by have := (h.foot hk).1; omega)
theorem Jr.devPtr (h : Jr w0 w gj g b rp j) : w.cell? ⟨gj, 0, none⟩ = some (.pointer (some ⟨g, 0, none⟩)) := by
  obtain ⟨p, c, h1, _⟩ := h.top
  exact h1.lget rfl
theorem Jr.next (h : Jr w0 w gj g b rp j) : w.cell? ((⟨gj, 0, none⟩ : Addr).add 2) = some (.int .i64 (j.k : Int)) := by
  obtain ⟨p, c, h1, _⟩ := h.top
  exact h1.lget rfl
end
theorem read_sec {g b : Nat} {s : St} (d : Dev w g b s) (k : Nat) : Calls Tryd.prog fn_device_Device_Read #[.pointer (some ⟨g, 0, none⟩), .int .i64 (k : Int)] w
    (fun e w' => (∃ x : Int, e = .returned (.tuple #[.string (S (sec s k)), .int .i64 x])) ∧ w' = w) := by
  refine (device_Read_spec d k).mono ?_
  rintro _ w' ⟨rfl, rfl⟩
  refine ⟨?_, rfl⟩
  unfold sec
  by_cases hk : k < s.n
  · rw [if_pos ⟨by omega, by omega⟩, if_pos hk, Int.toNat_natCast]
    exact ⟨_, rfl⟩
  · rw [if_neg (by omega), if_neg hk]
    exact ⟨_, rfl⟩
theorem rowF_append (F : Nat → UInt8) (o n m : Nat) : rowF F o n ++ rowF F (o + n) m = rowF F o (n + m) := by
  apply List.ext_getElem?
  intro i
  by_cases h : i < n
  · rw [List.getElem?_append_left (by simpa using h), rowF_get h, rowF_get (by omega)]
  · rw [List.getElem?_append_right (by simpa using h), rowF_length]
    by_cases h2 : i < n + m
    · rw [rowF_get (by omega), rowF_get h2, show o + n + (i - n) = o + i by omega]
    · rw [List.getElem?_eq_none (by simp; omega), List.getElem?_eq_none (by simp; omega)]
theorem rowF_take (F : Nat → UInt8) (o : Nat) {n m : Nat} (h : m ≤ n) : (rowF F o n).take m = rowF F o m := by
  apply List.ext_getElem?
  intro i
  by_cases hi : i < m
  · rw [List.getElem?_take_of_lt hi, rowF_get (by omega), rowF_get hi]
  · rw [List.getElem?_eq_none (by simp; omega), List.getElem?_eq_none (by simp; omega)]
def ReadAs (r : Option Txt) (t : Txt) (ok : Bool) : Prop := match r with
  | some t' => t = t' ∧ ok = true
  | none => ok = false
theorem jread_spec {gj g b : Nat} {rp : Option Nat} {j : Js} (he : Env w0) (h0 : Still w0 w) (h : Jr w0 w gj g b rp j) (ok : j.Ok) :
    Calls Tryd.prog fn_journal_Journal_read #[.pointer (some ⟨gj, 0, none⟩)] w (fun e w' => (∃ (t : Txt) (o : Bool), e = .returned (.tuple #[.string (S t), .bool o]) ∧ ReadAs (readR j.s j.k j.l.length) t o) ∧ Still w w') := by
  have hn2 := ok.s.n2
  have hk := ok.k
  have hl := ok.l
  refine journal_Journal_read_calls _ _ _ ?_
  have sD : Still w w.drew := (Still.refl w).toDrew
  refine ⟨fun wq => Still w wq, sD, _, fun wq hq => (h.still hq).devPtr, _, fun wq hq => (h.still hq).next, ?_⟩
  refine (read_sec h.drew.dev j.k).mono ?_
  rintro _ w1 ⟨⟨x, rfl⟩, rfl⟩
  refine .inl ⟨_, _, rfl, (size_spec he (h0.trans sD) (sec j.s j.k) (sec_len _ _)).mono ?_⟩
  rintro _ w2 ⟨⟨m, o, rfl, hm⟩, s2⟩
  have s2 := sD.trans s2
  have s2D := s2.toDrew
  refine .inl ⟨_, _, rfl, fun wq => Still w wq, s2D, ?_⟩
  have bad : ∀ {w' : World}, readR j.s j.k j.l.length = none → Still w w' → (∃ (t : Txt) (o : Bool), (Ending.returned (.tuple #[.string (S []), .bool false])) = .returned (.tuple #[.string (S t), .bool o]) ∧ ReadAs (readR j.s j.k j.l.length) t o) ∧ Still w w' := by
    intro w' e hs
    exact ⟨⟨_, _, rfl, by unfold ReadAs; rw [e]⟩, hs⟩
  unfold SizeAs at hm
  cases hsz : sizeR (sec j.s j.k) with
  | none =>
    rw [hsz] at hm
    dsimp only at hm
    subst hm
    refine ⟨s2D, s2D, bad ?_ s2D⟩
    unfold readR
    rw [hsz]
  | some n =>
    rw [hsz] at hm
    obtain ⟨rfl, rfl⟩ := hm
    have hn := sizeR_le hsz
    have hc := cnt_le hn
    refine ⟨_, fun wq hq => (h.still hq).next, _, fun wq hq => (h.still hq).devPtr, (sectors_spec n (by omega)).mono ?_⟩
    rintro _ w3 ⟨rfl, rfl⟩
    refine .inl ⟨_, rfl, s2D, (device_Size_spec (h.still s2D).dev).mono ?_⟩
    rintro _ w4 ⟨rfl, rfl⟩
    refine .inl ⟨_, rfl, s2D, ?_⟩
    rw [wrap_i64 (by omega) (by omega)]
    refine bsel_of (fun hx => ?_) (fun hx => ?_)
    · refine bad ?_ s2D
      have := of_decide_eq_true hx
      unfold readR
      rw [hsz]
      simp only
      rw [if_pos (by omega)]
    have hx : j.k + cnt n < j.s.n := by have := of_decide_eq_false hx; omega
    have hrd : readR j.s j.k j.l.length = if hd 49 j.l.length (rowF j.s.F ((j.k + 1) * 64) n) = trimZ (sec j.s j.k) then some (rowF j.s.F ((j.k + 1) * 64) n) else none := by
      unfold readR
      rw [hsz]
      simp only
      rw [if_neg (by omega)]
    refine allocK fun w5 r5 s5 z5 => ?_
    have s25 := s2D.trans s5
    refine (sectors_spec n (by omega)).mono ?_
    rintro _ w6 ⟨rfl, rfl⟩
    refine .inl ⟨_, rfl, fun x w7 => ∃ (i : Nat) (cs : List Value) (v : Value), x = (i : Int) ∧ i ≤ cnt n ∧ cs.length = 2 ∧ BldAt w7 63 w2.drew.heap.size 0 w6.heap.size cs v (rowF j.s.F ((j.k + 1) * 64) (i * 64)) ∧ Still w w7 ∧ w6.heap.size ≤ w7.heap.size, fun x _ => cnt n - x.toNat, ?_, ?_⟩
    · exact ⟨0, _, _, rfl, Nat.zero_le _, rfl, BldAt.fresh r5 rfl rfl, s25, Nat.le_refl _⟩
    rintro _ _ w7 ⟨i, cs, v, rfl, hi, hcs, hb, s7, z7⟩
    refine bsel_of (fun hx => ?_) (fun hx => ?_)
    · have hx : i < cnt n := by have := of_decide_eq_true hx; omega
      have s7D := s7.toDrew
      refine ⟨fun wq => Still w wq, s7D, _, fun wq hq => (h.still hq).devPtr, _, fun wq hq => (h.still hq).next, ?_⟩
      have e1 : IntKind.i64.wrap (IntKind.i64.wrap ((j.k : Int) + 1) + (i : Int)) = ((j.k + 1 + i : Nat) : Int) := by rw [wrap_i64 (n := (j.k : Int) + 1) (by omega) (by omega), wrap_i64 (by omega) (by omega)]; omega
      rw [e1]
      refine (read_sec (h.still s7D).dev _).mono ?_
      rintro _ w8 ⟨⟨x, rfl⟩, rfl⟩
      refine .inl ⟨_, _, rfl, ?_⟩
      have es : sec j.s (j.k + 1 + i) = rowF j.s.F ((j.k + 1) * 64 + i * 64) 64 := by unfold sec; rw [if_pos (by omega), Nat.add_mul]
      rw [es]
      have hbD : BldAt w7.drew 63 w2.drew.heap.size 0 w6.heap.size cs v (rowF j.s.F ((j.k + 1) * 64) (i * 64)) := hb.still (Still.refl w7).toDrew
      refine (writeString_spec hbD (by rw [hcs]; exact liesB0) _ z7 (by simp; omega)).mono ?_
      rintro _ w9 ⟨rfl, v', h9, m9⟩
      refine .inl ⟨_, _, rfl, rfl, ?_⟩
      rw [wrap_i64 (by omega) (by omega)]
      rw [rowF_append, ← Nat.succ_mul] at h9
      have z9 : w6.heap.size ≤ w9.heap.size := Nat.le_trans z7 m9.size
      refine ⟨⟨i + 1, _, _, by omega, by omega, by simp [hcs], h9, ?_, z9⟩, ?_⟩
      case refine_2 =>
        have : ((i : Int) + 1).toNat = i + 1 := by omega
        dsimp only
        rw [this]
        omega
      refine Mod.trans s7D m9 (fun _ h => h) (fun k hk e => ?_)
      have hws : w.heap.size ≤ w2.drew.heap.size := s2D.size
      rcases e with rfl | e
      · omega
      · have := hb.own.ownLt e
        have := s25.size
        omega
    · have hx : i = cnt n := by have := of_decide_eq_false hx; omega
      subst hx
      have hcn : n ≤ cnt n * 64 := by unfold cnt; omega
      refine (string_spec hb (by simp; omega)).mono ?_
      rintro _ w10 ⟨rfl, m10⟩
      have s10 : Still w w10 := Mod.trans s7 m10 (fun _ h => h) (fun k hk e => by have := hb.own.ownLt e; have := s25.size; omega)
      obtain ⟨p, c, t1, t2, t3⟩ := (h.still s10).top
      refine .inl ⟨_, rfl, by omega, by simp; omega, _, _, _, t1.lget rfl, ?_⟩
      rw [Int.toNat_natCast, rowF_take _ _ hcn]
      refine (head_spec he (h0.trans s10) 49 j.l.length (rowF j.s.F ((j.k + 1) * 64) n) (by omega) (by simpa using hn)).mono ?_
      rintro _ w11 ⟨rfl, s11⟩
      refine .inl ⟨_, rfl, (trim_spec (sec j.s j.k) (by have := sec_len j.s j.k; omega)).mono ?_⟩
      rintro _ w12 ⟨rfl, rfl⟩
      refine .inl ⟨_, rfl, ⟨_, _, rfl, ?_⟩, s10.trans s11⟩
      rw [hrd]
      unfold ReadAs
      by_cases hh : hd 49 j.l.length (rowF j.s.F ((j.k + 1) * 64) n) = trimZ (sec j.s j.k)
      · rw [if_pos hh]
        exact ⟨rfl, decide_eq_true hh⟩
      · rw [if_neg hh]
        exact decide_eq_false hh
def NewOr (rp rp' : Option Nat) (w : World) : Prop := ∀ k, rp' = some k → rp = some k ∨ w.heap.size ≤ k
theorem NewOr.refl (rp : Option Nat) (w : World) : NewOr rp rp w := fun _ h => .inl h
theorem NewOr.none (rp : Option Nat) (w : World) : NewOr rp none w := fun _ h => by cases h
def Foot2 (gj : Nat) (rp : Option Nat) (k : Nat) : Prop := k = gj ∨ rp = some k
theorem Foot2.foot {gj g b : Nat} {rp : Option Nat} {k : Nat} (h : Foot2 gj rp k) : Foot gj g b rp k := h.elim (fun h => .inr (.inr (.inl h))) (fun h => .inr (.inr (.inr h)))
theorem push1b {w : World} {B : Nat} {e : TypeId} {sz bytes : Nat} {p : Option Addr} {n c : Nat} {xs cs : List Value} {K : Option Addr → Nat → World → Prop} (ho : Owns w B e sz (.slice p n c) n xs) (hB : B ≤ w.heap.size)
    (hl : cs.length = sz) (h1 : ∀ u ∈ cs, u.oneCell' = true) (hs : n + 1 ≤ 9223372036854775807) (hb : (n + 1) * bytes ≤ 140737488355328)
    (h : ∀ p' c' w', Owns w' B e sz (.slice p' (n + 1) c') (n + 1) (xs ++ cs) → Mod (fun k => (Value.slice p n c).ownBlock = some k) w w' → NewOr (Value.slice p n c).ownBlock (Value.slice p' (n + 1) c').ownBlock w → K p' c' w') :
    letW (w.alloc (.cells ⟨cs⟩ e)) (fun w2 => appK w2 e sz bytes p n c (some (Addr.mk w.heap.size 0 none)) 1 K) := by
  refine allocK fun w1 hr hst hz => ?_
  refine appK_push (ho.still hst) (by omega) cs (by omega) h1 (fun _ => ⟨_, rfl, fun j u hu => ?_⟩) hs hb fun p' c' w' ho' hm hk => h p' c' w' ho' (Mod.trans hst hm (fun _ h => h.elim) (fun _ _ h => h)) (fun k hk' => ?_)
  · rw [add_row, Nat.zero_add]
    exact hr.cellv (by simpa using hu)
  · rcases hk.own (n := n) with e | e
    · exact .inl (e.symm.trans hk')
    · rw [hk'] at e
      have := Option.some.inj e
      exact .inr (by omega)
theorem jadd_spec {gj g b : Nat} {rp : Option Nat} {j : Js} (h0 : Still w0 w) (h : Jr w0 w gj g b rp j) (hl : j.l.length ≤ 5000) (hk : j.k ≤ 5000) (t : Txt) (ht : t.length ≤ 100000) :
    Calls Tryd.prog fn_journal_Journal_add #[.pointer (some ⟨gj, 0, none⟩), .string (S t)] w (fun e w' => e = .returned (.tuple #[]) ∧ ∃ rp', Jr w0 w' gj g b rp' ⟨j.s, j.l ++ [t], j.k + 1 + cnt t.length⟩ ∧ Mod (Foot2 gj rp) w w' ∧ NewOr rp rp' w) := by
  obtain ⟨p, c, t1, t2, t3⟩ := h.top
  have hc := cnt_le ht
  refine journal_Journal_add_calls _ _ _ _ ?_
  refine ⟨_, _, _, t1.lget rfl, push1b t2 h0.size (cs := [.string (S t)]) rfl (by simp [Value.oneCell']) (by omega) (by omega) fun p' c' w2 o2 m2 n2 => ?_⟩
  have hgt : ∀ k, (Value.slice p j.l.length c).ownBlock = some k → gj ≠ k := fun k hk => by
    obtain ⟨cur, hr⟩ := t2.typed hk
    exact t1.ne hr (by decide)
  have t12 := t1.mod m2 (fun e => hgt _ e rfl)
  have hgt2 : (Value.slice p' (j.l.length + 1) c').ownBlock ≠ some gj := fun e => by
    obtain ⟨cur, hr⟩ := o2.typed e
    exact t12.ne hr (by decide) rfl
  refine stK (g := gj) (o := 1) t12 (by simp) (by simp [Value.oneCell']) fun w3 r3 m3 z3 => ?_
  simp only [ovw, List.set_cons_succ, List.set_cons_zero] at r3
  have r3D : Row w3.drew gj ty_journal_Journal _ := r3
  refine ⟨fun wq => wq = w3.drew, rfl, _, fun wq hq => by subst hq; exact r3D.lget rfl, (sectors_spec t.length (by omega)).mono ?_⟩
  rintro _ w4 ⟨rfl, rfl⟩
  refine .inl ⟨_, rfl, rfl, stK (g := gj) (o := 2) r3D (by simp) (by simp [Value.oneCell']) fun w5 r5 m5 z5 => ?_⟩
  simp only [ovw, List.set_cons_succ, List.set_cons_zero] at r5
  have e1 : IntKind.i64.wrap ((j.k : Int) + IntKind.i64.wrap (1 + ((cnt t.length : Nat) : Int))) = ((j.k + 1 + cnt t.length : Nat) : Int) := by rw [wrap_i64 (n := 1 + ((cnt t.length : Nat) : Int)) (by omega) (by omega), wrap_i64 (by omega) (by omega)]; omega
  rw [e1] at r5
  have m25 : Mod (fun k => k = gj) w2 w5 := Mod.trans m3.drew m5 (fun _ h => h) (fun _ _ h => h)
  have m : Mod (Foot2 gj rp) w w5 := Mod.trans m2 m25 (fun k hk => .inr (t3.symm.trans hk)) (fun _ _ h => .inl h)
  have hne : ∀ k, Foot2 gj rp k → k ≠ g ∧ k ≠ b := by
    rintro k (rfl | hk)
    · exact ⟨t1.ne h.dev.top (by decide), t1.ne h.dev.bytes (by decide)⟩
    · obtain ⟨cur, hr⟩ := t2.typed (t3.trans hk)
      exact ⟨hr.ne h.dev.top (by decide), hr.ne h.dev.bytes (by decide)⟩
  refine ⟨rfl, (Value.slice p' (j.l.length + 1) c').ownBlock, ⟨h.dev.mod m (fun e => (hne _ e).1 rfl) (fun e => (hne _ e).2 rfl), ⟨p', c', ?_, ?_, by rw [List.length_append]; rfl⟩, h.low⟩, m, ?_⟩
  · rw [List.length_append]
    exact r5
  · have ho := o2.mod m25 (fun k hk e => hgt2 (by rw [hk, e]))
    rw [List.length_append, strs_append]
    exact ho
  · rw [← t3]
    exact n2
theorem jrecords_spec {gj g b : Nat} {rp : Option Nat} {j : Js} (h : Jr w0 w gj g b rp j) (hl : j.l.length ≤ 5000) :
    Calls Tryd.prog fn_journal_Journal_Records #[.pointer (some ⟨gj, 0, none⟩)] w (fun e w' => ∃ q D, e = .returned (.slice q j.l.length D) ∧ Owns w' w.heap.size ty_string 1 (.slice q j.l.length D) j.l.length (strs j.l) ∧ Still w w') := by
  obtain ⟨p, c, t1, t2, t3⟩ := h.top
  refine journal_Journal_Records_calls _ _ _ ?_
  refine ⟨_, _, _, t1.lget rfl, ?_⟩
  have key : Calls Tryd.prog fn_slices_Clone_string_string #[.slice p j.l.length c] w (fun e w' => ∃ q D, e = .returned (.slice q j.l.length D) ∧ Owns w' w.heap.size ty_string 1 (.slice q j.l.length D) j.l.length (strs j.l) ∧ Still w w') := by
    refine slices_Clone_string_string_calls _ _ _ _ _ ?_
    cases p with
    | none =>
      obtain ⟨_, ⟨hv, hn⟩ | ⟨g', cap, cur, hv, _⟩⟩ := t2
      · rw [hn]
        have hnil : j.l = [] := List.eq_nil_of_length_eq_zero hn
        rw [hnil]
        exact ⟨none, 0, rfl, Owns.nil _ _ _ _, Still.refl _⟩
      · cases hv
    | some a =>
      refine bsel_of (fun h => by cases h) (fun _ => allocK fun w1 r1 s1 z1 => ?_)
      have ho : Owns w1 w.heap.size ty_string 1 (.slice (some (Addr.mk w.heap.size 0 none)) 0 0) 0 [] := ⟨rfl, .inr ⟨_, 0, #[], rfl, Nat.le_refl _, r1, Nat.le_refl _, Nat.zero_le _, rfl, rfl⟩⟩
      refine appK_push ho (by omega) (strs j.l) (by rw [strs_length]; omega) (strs_one _) (t2.still s1 |> At.own) (by omega) (by omega) fun q D w2 o2 m2 _ => ?_
      simp only [Nat.zero_add, List.nil_append] at o2 ⊢
      exact ⟨q, D, rfl, o2, s1.own ho (Nat.le_refl _) m2⟩
  refine key.mono ?_
  rintro _ w1 ⟨q, D, rfl, h1, h2⟩
  exact .inl ⟨_, _, _, rfl, q, D, rfl, h1, h2⟩
def nextOf (gj : Nat) (w : World) : Nat := match w.cell? ⟨gj, 2, none⟩ with
  | some (.int _ n) => n.toNat
  | _ => 0
theorem Jr.nextOf {gj g b : Nat} {rp : Option Nat} {j : Js} (h : Jr w0 w gj g b rp j) : nextOf gj w = j.k := by
  unfold Proofs.YtddkalfffhkkkaaDoor.nextOf
  rw [show w.cell? ⟨gj, 2, none⟩ = some (.int .i64 (j.k : Int)) from h.next]
  rfl
theorem jopen_spec {g b : Nat} {s : St} (he : Env w0) (h0 : Still w0 w) (d : Dev w g b s) (ok : s.Ok) (lg : w0.heap.size ≤ g) (lb : w0.heap.size ≤ b) :
    Calls Tryd.prog fn_journal_Open #[.pointer (some ⟨g, 0, none⟩)] w (fun e w' => ∃ gj rp, e = .returned (.pointer (some ⟨gj, 0, none⟩)) ∧ Still w w' ∧ w.heap.size ≤ gj ∧ NewOr none rp w ∧ Jr w0 w' gj g b rp (Js.opened s)) := by
  have hn2 := ok.n2
  refine journal_Open_calls _ _ _ ?_
  refine allocK fun w1 r1 s1 z1 => ?_
  refine ⟨fun w2 => ∃ l k rp f, Jr w0 w2 w.heap.size g b rp ⟨s, l, k⟩ ∧ Still w w2 ∧ NewOr none rp w ∧ openR s = openF f s l k ∧ s.n - k < f ∧ l.length ≤ k ∧ k ≤ s.n, fun w2 => s.n - nextOf w.heap.size w2, ?_, ?_⟩
  · refine ⟨[], 0, none, s.n + 1, ⟨⟨d.top.still s1, d.bytes.still s1⟩, ⟨none, 0, r1, Owns.nil _ _ _ _, rfl⟩, h0.size, lg, lb⟩, s1, NewOr.refl _ _, rfl, by omega, Nat.le_refl _, Nat.zero_le _⟩
  rintro _ w2 ⟨l, k, rp, f, J, s2, hn, hop, hf, hlk, hks⟩
  refine (jread_spec he (h0.trans s2) J ⟨ok, hks, hlk⟩).mono ?_
  rintro _ w3 ⟨⟨t, o, rfl, hr⟩, s3⟩
  have J3 := J.still s3
  have s23 := s2.trans s3
  refine .inl ⟨_, _, rfl, ?_⟩
  cases f with
  | zero => omega
  | succ f =>
  simp only [openF] at hop
  unfold ReadAs at hr
  cases hrd : readR s k l.length with
  | none =>
    rw [hrd] at hr hop
    dsimp only at hr hop
    subst hr
    refine ⟨_, rp, rfl, s23, Nat.le_refl _, hn, ?_⟩
    unfold Js.opened
    rw [hop]
    exact J3
  | some t' =>
    rw [hrd] at hr hop
    obtain ⟨rfl, rfl⟩ := hr
    dsimp only at hop
    obtain ⟨hlt, htl⟩ := readR_some hrd
    refine (jadd_spec (h0.trans s23) J3 (by dsimp only; omega) (by dsimp only; omega) t htl).mono ?_
    rintro _ w4 ⟨rfl, rp', J4, m4, n4⟩
    refine .inl ⟨rfl, ⟨l ++ [t], k + 1 + cnt t.length, rp', f, J4, ?_, ?_, hop, by omega, by simp; omega, by omega⟩, ?_⟩
    · refine Mod.trans s23 m4 (fun _ h => h) (fun i hi hk => ?_)
      rcases hk with rfl | hk
      · omega
      · rcases hn _ hk with h | h
        · cases h
        · omega
    · intro i hi
      rcases n4 i hi with h | h
      · exact hn i h
      · exact .inr (Nat.le_trans s23.size h)
    · dsimp only
      rw [J4.nextOf, J.nextOf]
      dsimp only
      omega
theorem Mod.putObj {S : Nat → Prop} {a b : World} (h : Mod S a b) {k : Nat} (hk : S k ∨ a.heap.size ≤ k) (o : Obj) : Mod S a (b.putObj k o) :=
  ⟨h.os, h.tape, h.output, by rw [World.putObj_size]; exact h.size, fun i hi hn => (World.putObj_heap_other (by
    rintro rfl
    rcases hk with hk | hk
    · exact hn hk
    · omega)).trans (h.block i hi hn)⟩
theorem mput (w : World) (k : Nat) (o : Obj) : Mod (fun n => n = k) w (w.putObj k o) := (Mod.refl (fun n => n = k) w).putObj (.inl rfl) o
theorem heap_lt {w : World} {k : Nat} {o : Obj} (h : w.heap[k]? = some o) : k < w.heap.size := (Array.getElem?_eq_some_iff.1 h).1
theorem heap_mod {S : Nat → Prop} {w w' : World} {k : Nat} {o : Obj} (h : w.heap[k]? = some o) (hm : Mod S w w') (hk : ¬ S k) : w'.heap[k]? = some o := (hm.block k (heap_lt h) hk).trans h
def Round (A B : World → Prop) (e : Ending) (w' : World) : Prop := ∃ o : Bool, e = .returned (.bool o) ∧ (o = true → A w') ∧ (o = false → B w')
theorem chunk_spec {k gs gn q C : Nat} {t : Txt} {B : Nat} (I : Nat → World → Prop) (F : World → Prop) (ht : t.length ≤ 100000) (h0 : I 0 w)
    (hread : ∀ i w1, I i w1 → Row w1 gs 46 ⟨[.slice (some ⟨q, 0, none⟩) t.length C]⟩ ∧ Row w1 gn 3 ⟨[.int .i64 64]⟩ ∧ Owns w1 B 5 1 (.slice (some ⟨q, 0, none⟩) t.length C) t.length (bc t))
    (hdrew : ∀ i w1, I i w1 → I i w1.drew)
    (hstep : ∀ i w1 p D, i < cnt t.length → I i w1 → BytesAt (fun a v => w1.cell? a = some v) p ((t.drop (i * 64)).take 64).length ((t.drop (i * 64)).take 64) → YieldsTo Tryd.prog k [.slice p ((t.drop (i * 64)).take 64).length D] w1 (Round (I (i + 1)) F)) :
    Calls Tryd.prog fn_slices_Chunk_byte_byte_1 #[yieldV k, .pointer (some ⟨gs, 0, none⟩), .pointer (some ⟨gn, 0, none⟩)] w (fun e w' => e = .returned (.tuple #[]) ∧ (I (cnt t.length) w' ∨ F w')) := by
  refine slices_Chunk_byte_byte_1_calls _ _ _ _ _ ?_
  refine ⟨fun x w1 => ∃ i, x = ((i * 64 : Nat) : Int) ∧ i ≤ cnt t.length ∧ I i w1, fun x _ => (cnt t.length + 1) * 64 - x.toNat, ⟨0, rfl, Nat.zero_le _, h0⟩, ?_⟩
  rintro _ _ w1 ⟨i, rfl, hi, hI⟩
  obtain ⟨r1, r2, r3⟩ := hread i w1 hI
  have hc : cnt t.length * 64 < t.length + 64 := by unfold cnt; omega
  have hc2 : t.length ≤ cnt t.length * 64 := by unfold cnt; omega
  refine ⟨_, _, _, r1.lget rfl, bsel_of (fun hx => ?_) (fun hx => ?_)⟩
  · have hx : i * 64 < t.length := by have := of_decide_eq_true hx; omega
    have hlt : i < cnt t.length := by omega
    refine ⟨fun wq => wq = w1.drew, rfl, _, fun wq hq => (by subst hq; exact r2.lget rfl), _, _, _, fun wq hq => (by subst hq; exact r1.lget rfl), by omega, by omega, _, _, _, r1.lget rfl, ?_⟩
    have hm : (if ((((t.length - Int.toNat ((i * 64 : Nat) : Int)) : Nat) : Int) : Int) < 64 then ((((t.length - Int.toNat ((i * 64 : Nat) : Int)) : Nat) : Int) : Int) else 64) = ((min 64 (t.length - i * 64) : Nat) : Int) := by
      rw [Int.toNat_natCast]
      split <;> omega
    rw [hm]
    have hw : IntKind.i64.wrap (((i * 64 : Nat) : Int) + ((min 64 (t.length - i * 64) : Nat) : Int)) = ((i * 64 + min 64 (t.length - i * 64) : Nat) : Int) := by rw [wrap_i64 (by omega) (by omega)]; omega
    rw [hw]
    obtain ⟨g', cap, cur, hv, _, hr, hcap, hsz, htk⟩ := r3.row (by omega)
    injection hv with hv1 hv2 hv3
    subst hv3
    refine ⟨by omega, by omega, by omega, by omega, ?_⟩
    rw [Int.toNat_natCast, Int.toNat_natCast, if_neg (by omega)]
    have hl : ((t.drop (i * 64)).take 64).length = i * 64 + min 64 (t.length - i * 64) - i * 64 := by rw [List.length_take, List.length_drop]; omega
    have hy := hstep i w1.drew (some ((Addr.mk q 0 none).add (i * 64 * 1))) (i * 64 + min 64 (t.length - i * 64) - i * 64) hlt (hdrew i w1 hI) ?_
    · rw [hl] at hy
      refine hy.mono ?_
      rintro _ w2 ⟨o, rfl, hA, hB⟩
      refine ⟨o, rfl, bsel_of (fun ho => ?_) (fun ho => ?_)⟩
      · exact ⟨rfl, .inr (hB (by simpa using ho))⟩
      · have hA := hA (by simpa using ho)
        obtain ⟨_, q2, _⟩ := hread (i + 1) w2 hA
        refine ⟨_, q2.lget rfl, rfl, ⟨i + 1, ?_, hlt, hA⟩, ?_⟩
        · rw [wrap_i64 (by omega) (by omega)]
          omega
        · dsimp only
          rw [wrap_i64 (by omega) (by omega)]
          omega
    · refine ⟨rfl, fun _ => ⟨_, rfl, fun j u hu => ?_⟩⟩
      have hj : j < ((t.drop (i * 64)).take 64).length := (List.getElem?_eq_some_iff.1 hu).1
      rw [List.getElem?_take_of_lt (by rw [List.length_take] at hj; omega), List.getElem?_drop] at hu
      have hat : ∀ n u, t[n]? = some u → w1.cell? (Addr.mk q n none) = some (.int .u8 u.toNat) := by
        intro n u hu
        have hn : n < t.length := (List.getElem?_eq_some_iff.1 hu).1
        obtain ⟨a, ha, hc⟩ := At.own r3 (by omega)
        obtain rfl := Option.some.inj ha
        have := hc n (.int .u8 u.toNat) (by simp [bc, hu])
        rwa [add_row, Nat.zero_add] at this
      have := hat _ _ hu
      show w1.cell? _ = _
      rw [add_row, add_row, Nat.zero_add, Nat.mul_one]
      exact this
  · have hx : ¬ i * 64 < t.length := by have := of_decide_eq_false hx; omega
    have : i = cnt t.length := by omega
    subst this
    exact ⟨rfl, .inl hI⟩
theorem mkChunk_spec {q C : Nat} {t : Txt} {K : World → Prop} (gs gn : Nat) (hgs : gs = w.heap.size) (hgn : gn = w.heap.size + 1)
    (h : ∀ w', Row w' gs 46 ⟨[.slice (some ⟨q, 0, none⟩) t.length C]⟩ → Row w' gn 3 ⟨[.int .i64 64]⟩ → Still w w' → w'.heap.size = w.heap.size + 2 → K w') :
    Calls Tryd.prog fn_slices_Chunk_byte_byte #[.slice (some ⟨q, 0, none⟩) t.length C, .int .i64 64] w (fun e w' => e = .returned (.func (.func fn_slices_Chunk_byte_byte_1) #[] #[.pointer (some ⟨gs, 0, none⟩), .pointer (some ⟨gn, 0, none⟩)]) ∧ K w') := by
  subst hgs hgn
  refine slices_Chunk_byte_byte_calls _ _ _ _ _ _ ?_
  refine allocK fun w1 r1 s1 z1 => allocK fun w2 r2 s2 z2 => ⟨_, r2.lget rfl, bsel_of (fun hx => by simp at hx) (fun _ => ?_)⟩
  rw [z1] at r2 ⊢
  exact ⟨rfl, h w2 (r1.still s2) r2 (s1.trans s2) (by omega)⟩
end Go.Proofs.YtddkalfffhkkkaaDoor
namespace Go.Proofs.YtddkalfffhkkkaaDoor
open Go.RowKit Vc
variable {w w0 : World}
def endN (j : Js) (t : Txt) : Nat := if j.k + 1 + cnt t.length < j.s.n then 1 else 0
abbrev Js.wrs (j : Js) (t : Txt) : List (Nat × Txt) := Proofs.YtddkalfffhkkkaaDoor.wrs j.s j.k j.l.length t
section
variable {j : Js} {t : Txt}
theorem chunks_len (k : Nat) (t : Txt) : (chunks k t).length = cnt t.length := by simp [chunks]
theorem wrs_len : (j.wrs t).length = endN j t + 1 + cnt t.length + 1 := by
  unfold Js.wrs Proofs.YtddkalfffhkkkaaDoor.wrs endN
  split <;> simp [chunks_len] <;> omega
theorem wrs_end (h : j.k + 1 + cnt t.length < j.s.n) : (j.wrs t)[0]? = some (j.k + 1 + cnt t.length, []) := by
  unfold Js.wrs Proofs.YtddkalfffhkkkaaDoor.wrs
  rw [if_pos h]
  rfl
theorem wrs_from (i : Nat) : (j.wrs t)[endN j t + i]? = ((j.k, hd 48 j.l.length t) :: (chunks (j.k + 1) t ++ [(j.k, hd 49 j.l.length t)]))[i]? := by
  unfold Js.wrs Proofs.YtddkalfffhkkkaaDoor.wrs endN
  split
  · rw [List.getElem?_append_right (by simp)]
    simp
  · simp
theorem wrs_head : (j.wrs t)[endN j t]? = some (j.k, hd 48 j.l.length t) := by
  have := wrs_from (j := j) (t := t) 0
  simpa using this
theorem wrs_piece {i : Nat} (h : i < cnt t.length) : (j.wrs t)[endN j t + 1 + i]? = some (j.k + 1 + i, (t.drop (i * 64)).take 64) := by
  have := wrs_from (j := j) (t := t) (1 + i)
  rw [← Nat.add_assoc] at this
  rw [this, Nat.add_comm 1 i, List.getElem?_cons_succ, List.getElem?_append_left (by rw [chunks_len]; exact h)]
  simp [chunks, h]
theorem wrs_last : (j.wrs t)[endN j t + 1 + cnt t.length]? = some (j.k, hd 49 j.l.length t) := by
  have := wrs_from (j := j) (t := t) (1 + cnt t.length)
  rw [← Nat.add_assoc] at this
  rw [this, Nat.add_comm 1, List.getElem?_cons_succ, List.getElem?_append_right (by rw [chunks_len]; omega), chunks_len, Nat.sub_self]
  rfl
end
structure Rd (w0 w : World) (gj g b gb1 gb2 : Nat) (j : Js) (t : Txt) : Prop where
  box1 : Row w gb1 30 ⟨[.pointer (some ⟨gj, 0, none⟩)]⟩
  box2 : Row w gb2 9 ⟨[.string (S t)]⟩
  top : ∃ p c, Row w gj ty_journal_Journal ⟨[.pointer (some ⟨g, 0, none⟩), .slice p j.l.length c, .int .i64 (j.k : Int)]⟩
  dev : ∃ s, Dev w g b s ∧ s.n = j.s.n
  still : Still w0 w
theorem Rd.drew {gj g b gb1 gb2 : Nat} {j : Js} {t : Txt} (h : Rd w0 w gj g b gb1 gb2 j t) : Rd w0 w.drew gj g b gb1 gb2 j t := by
  obtain ⟨s, d, hs⟩ := h.dev
  exact ⟨h.box1, h.box2, h.top, ⟨s, ⟨d.top, d.bytes⟩, hs⟩, h.still.toDrew⟩
theorem Rd.at {gj g b gb1 gb2 : Nat} {j : Js} {t : Txt} (h : Rd w0 w gj g b gb1 gb2 j t) {w' : World} (hm : Still w w') : Rd w0 w' gj g b gb1 gb2 j t := by
  obtain ⟨s, d, hs⟩ := h.dev
  obtain ⟨p, c, ht⟩ := h.top
  exact ⟨h.box1.still hm, h.box2.still hm, ⟨p, c, ht.still hm⟩, ⟨s, ⟨d.top.still hm, d.bytes.still hm⟩, hs⟩, h.still.trans hm⟩
theorem Rd.nx {gj g b gb1 gb2 : Nat} {j : Js} {t : Txt} (h : Rd w0 w gj g b gb1 gb2 j t) : w.cell? ((⟨gj, 0, none⟩ : Addr).add 2) = some (.int .i64 (j.k : Int)) := by
  obtain ⟨p, c, ht⟩ := h.top
  exact ht.lget rfl
theorem Rd.dv {gj g b gb1 gb2 : Nat} {j : Js} {t : Txt} (h : Rd w0 w gj g b gb1 gb2 j t) : w.cell? ⟨gj, 0, none⟩ = some (.pointer (some ⟨g, 0, none⟩)) := by
  obtain ⟨p, c, ht⟩ := h.top
  exact ht.lget rfl
theorem bytes_far {p : Option Addr} {bs : List UInt8} {ga K : Nat} {z : Int} {w' : World} (h : BytesAt (fun a v => w.cell? a = some v) p bs.length bs) (hga : Row w ga 3 ⟨[.int .i64 z]⟩) {r : Loop} (hK : w.heap[K]? = some (.loop r))
    (hm : Mod (fun n => n = ga ∨ n = K) w w') : BytesAt (fun a v => w'.cell? a = some v) p bs.length bs := by
  refine ⟨rfl, fun hp => ?_⟩
  obtain ⟨a, ha, hc⟩ := h.2 hp
  refine ⟨a, ha, fun i u hu => ?_⟩
  have h1 := hc i u hu
  refine (World.cell?_of_block (hm.block _ (World.block_lt_of_cell? _ _ h1) ?_)).trans h1
  rintro (e | e)
  · obtain ⟨fz, hr, _⟩ := hga
    have h1' : w.cell? (a.add i) = some (.int .u8 (u.toNat : Int)) := h1
    unfold World.cell? at h1'
    rw [e, hr] at h1'
    generalize (a.add i) = x at h1'
    obtain ⟨xb, xo, xp⟩ := x
    cases xo with
    | zero => cases xp <;> simp at h1'
    | succ n => cases xp <;> simp at h1'
  · have h1' : w.cell? (a.add i) = some (.int .u8 (u.toNat : Int)) := h1
    unfold World.cell? at h1'
    rw [e, hK] at h1'
    simp at h1'
end Go.Proofs.YtddkalfffhkkkaaDoor
namespace Go.Proofs.YtddkalfffhkkkaaDoor
open Go.RowKit Vc
theorem one_len {x : Txt} (h : x.length ≤ 9) : (one x).length = x.length + 3 := by
  simp only [one, List.length_append, List.length_cons, List.length_nil, dec_small (show x.length < 10 by omega)]
  omega
theorem hd_len {m : UInt8} {n : Nat} {t : Txt} (hn : n ≤ 5000) (ht : t.length ≤ 100000) : (hd m n t).length ≤ 64 := by
  have h1 := dec_len9 (n := n) (by omega)
  have h2 := dec_len9 (n := t.length) (by omega)
  have h3 : (one ((sha t).take 16)).length = 20 := by
    have : ((sha t).take 16).length = 16 := by rw [List.length_take, sha_len]; rfl
    have h16 : (dec 16).length = 2 := by rw [dec_step (by decide), dec_small (by decide)]; rfl
    simp only [one, List.length_append, List.length_cons, List.length_nil, this, h16]
  have e : hd m n t = m :: (one (dec n) ++ (one (dec t.length) ++ (one ((sha t).take 16) ++ []))) := by simp [hd, encode]
  rw [e]
  simp only [List.length_cons, List.length_append, one_len h1, one_len h2, h3, List.length_nil]
  omega
theorem hd_last {m : UInt8} {n : Nat} {t : Txt} : ∃ r, hd m n t = r ++ [44] := by
  refine ⟨m :: (one (dec n) ++ (one (dec t.length) ++ (dec ((sha t).take 16).length ++ [58] ++ (sha t).take 16))), ?_⟩
  simp [hd, encode, one]
theorem trimZ_zeros {x : Txt} (h : ∃ r, x = r ++ [44]) (n : Nat) : trimZ (x ++ List.replicate n 0) = x := by
  obtain ⟨r, rfl⟩ := h
  have := Lib.trimRightB_take (r ++ [44] ++ List.replicate n 0) 0 (r ++ [44]).length (by simp) (fun j b hj hb => by
    rw [List.getElem?_append_right hj] at hb
    exact (List.mem_replicate.1 (List.mem_of_getElem? hb)).2) (fun b _ hb => by
    rw [List.getElem?_append_left (by simp)] at hb
    simp at hb
    rw [← hb]
    decide)
  unfold trimZ
  rw [this, List.take_left]
theorem takeWhile_zero : ∀ (l : Txt) (b : UInt8), b ∈ l.takeWhile (· == (0 : UInt8)) → b = 0
  | [], _, h => by cases h
  | a :: l, b, h => by
    rw [List.takeWhile_cons] at h
    split at h
    · rename_i ha
      rcases List.mem_cons.1 h with rfl | h
      · simpa using ha
      · exact takeWhile_zero l b h
    · cases h
theorem trimZ_form (s : Txt) : ∃ n, s = trimZ s ++ List.replicate n 0 := by
  have h := List.takeWhile_append_dropWhile (p := (· == (0 : UInt8))) (l := s.reverse)
  refine ⟨(s.reverse.takeWhile (· == (0 : UInt8))).length, ?_⟩
  have h2 : s.reverse.takeWhile (· == (0 : UInt8)) = List.replicate (s.reverse.takeWhile (· == (0 : UInt8))).length 0 := List.eq_replicate_iff.2 ⟨rfl, fun b hb => takeWhile_zero _ b hb⟩
  have h3 := congrArg List.reverse h
  rw [List.reverse_append, List.reverse_reverse] at h3
  conv => lhs; rw [← h3]
  unfold trimZ Lib.trimRightB
  conv => lhs; rw [h2]
  rw [List.reverse_replicate]
def pad (x : Txt) : Txt := x ++ List.replicate (64 - x.length) 0
theorem rowF_pad (x : Txt) (h : x.length ≤ 64) : rowF (fun i => x.getD i 0) 0 64 = pad x := by
  apply List.ext_getElem?
  intro i
  unfold pad
  by_cases hi : i < 64
  · rw [rowF_get hi, Nat.zero_add]
    by_cases hx : i < x.length
    · rw [List.getElem?_append_left hx, List.getElem?_eq_getElem hx]
      simp [List.getD_eq_getElem?_getD, hx]
    · rw [List.getElem?_append_right (by omega)]
      simp [List.getD_eq_getElem?_getD, List.getElem?_eq_none (Nat.le_of_not_lt hx), show i - x.length < 64 - x.length by omega]
  · rw [List.getElem?_eq_none (by simp; omega), List.getElem?_eq_none (by simp; omega)]
theorem append_run {j : Js} {t : Txt} (ht : t.length ≤ 100000) (hf : j.k + cnt t.length < j.s.n) {x : Int} {s' : St} (hr : runW j.s (wrs j.s j.k j.l.length t) = (x, s')) :
    j.append t = if x = 0 then (0, ⟨s', j.l ++ [t], j.k + 1 + cnt t.length⟩) else (x, ⟨s', j.l, j.k⟩) := by
  unfold Js.append
  rw [if_neg (by omega), if_neg (by omega)]
  simp only [hr]
end Go.Proofs.YtddkalfffhkkkaaDoor
namespace Go.Proofs.YtddkalfffhkkkaaDoor
open Go.RowKit Vc
variable {w w0 : World}
set_option maxRecDepth 10000 in
set_option maxHeartbeats 1000000 in
theorem writes_spec {k gj g b gb1 gb2 : Nat} {j : Js} {t : Txt} (he : Env w0) (ok : j.Ok) (ht : t.length ≤ 100000) (hend : j.k + cnt t.length < j.s.n) (I : Nat → World → Prop) (F : World → Prop) (hI : I 0 w)
    (hread : ∀ i w1, I i w1 → Rd w0 w1 gj g b gb1 gb2 j t) (hkI : ∀ i w1 w2, I i w1 → Mod (fun n => w.heap.size ≤ n) w1 w2 → I i w2) (hkF : ∀ w1 w2, F w1 → Mod (fun n => w.heap.size ≤ n) w1 w2 → F w2)
    (hstep : ∀ i x w1, (j.wrs t)[i]? = some x → I i w1 → YieldsTo Tryd.prog k [.int .i64 (x.1 : Int), .string (S x.2)] w1 (fun e w2 => Round (I (i + 1)) F e w2 ∧ Mod (fun n => n < w.heap.size) w1 w2)) :
    Calls Tryd.prog fn_journal_Journal_writes_1 #[yieldV k, .pointer (some ⟨gb1, 0, none⟩), .pointer (some ⟨gb2, 0, none⟩)] w (fun e w' => e = .returned (.tuple #[]) ∧ (I (j.wrs t).length w' ∨ F w')) := by
  have hn2 := ok.s.n2
  have hk := ok.k
  have hlk := ok.l
  have hc := cnt_le ht
  have kI : ∀ {i w1 w2}, I i w1 → Still w1 w2 → I i w2 := fun h hm => hkI _ _ _ h (hm.weaken fun _ h => h.elim)
  have kF : ∀ {w1 w2}, F w1 → Still w1 w2 → F w2 := fun h hm => hkF _ _ h (hm.weaken fun _ h => h.elim)
  refine journal_Journal_writes_1_calls _ _ _ _ _ ?_
  refine allocK fun w1 ry s1 z1 => ?_
  have hI1 := kI hI s1
  have R1 := hread _ _ hI1
  obtain ⟨p, c, ht1⟩ := R1.top
  refine ⟨_, R1.box1.lget rfl, _, _, _, ht1.lget rfl, fun w' => I (endN j t) w' ∧ Row w' w.heap.size 71 ⟨[yieldV k]⟩ ∧ w1.heap.size ≤ w'.heap.size, ?_, ?_⟩
  · refine ⟨fun wq => Still w1 wq, (Still.refl w1).toDrew, _, fun wq hq => (R1.at hq).box1.lget rfl, _, fun wq hq => (R1.at hq).nx, _, fun wq hq => (R1.at hq).box2.lget rfl, (sectors_spec t.length (by omega)).mono ?_⟩
    rintro _ w2 ⟨rfl, rfl⟩
    refine .inl ⟨_, rfl, (Still.refl w1).toDrew, ?_⟩
    have hI2 := kI hI1 (Still.refl w1).toDrew
    have R2 := hread _ _ hI2
    refine ⟨fun x w' => (x = true → F w') ∧ (x = false → I (endN j t) w' ∧ Row w' w.heap.size 71 ⟨[yieldV k]⟩ ∧ w1.heap.size ≤ w'.heap.size), ?_, ?_⟩
    · obtain ⟨s, d, hs⟩ := R2.dev
      refine ⟨_, R2.box1.lget rfl, _, R2.dv, (device_Size_spec d).mono ?_⟩
      rintro _ w3 ⟨rfl, rfl⟩
      refine .inl ⟨_, rfl, ?_⟩
      have e1 : IntKind.i64.wrap (IntKind.i64.wrap ((j.k : Int) + 1) + ((cnt t.length : Nat) : Int)) = ((j.k + 1 + cnt t.length : Nat) : Int) := by rw [wrap_i64 (n := (j.k : Int) + 1) (by omega) (by omega), wrap_i64 (by omega) (by omega)]; omega
      rw [e1, hs]
      refine bsel_of (fun hx => ?_) (fun hx => ?_)
      · have hx : j.k + 1 + cnt t.length < j.s.n := by have := of_decide_eq_true hx; omega
        have en : endN j t = 1 := if_pos hx
        refine ⟨yieldV k, rfl, (ry.still (Still.refl w1).toDrew).lget rfl, (hstep 0 _ _ (wrs_end hx) hI2).mono ?_⟩
        rintro _ w4 ⟨⟨o, rfl, hA, hB⟩, m4⟩
        refine ⟨o, rfl, rfl, fun ho => hB (by simpa using ho), fun ho => ⟨by rw [en]; exact hA (by simpa using ho), ?_, m4.size⟩⟩
        exact ry.mod (((Mod.refl (fun n => n < w.heap.size) w1).drew).trans m4 (fun _ h => h) (fun _ _ h => h)) (fun h => Nat.lt_irrefl _ h)
      · have hx : ¬ j.k + 1 + cnt t.length < j.s.n := by have := of_decide_eq_false hx; omega
        have en : endN j t = 0 := if_neg hx
        exact ⟨rfl, fun h => (by cases h), fun _ => ⟨by rw [en]; exact hI2, ry.still (Still.refl w1).toDrew, Nat.le_refl _⟩⟩
    · rintro x _ w5 ⟨h1, h2⟩
      exact bsel_of (fun hx => ⟨rfl, .inr (h1 hx)⟩) (fun hx => ⟨rfl, h2 hx⟩)
  rintro _ w6 ⟨hI6, ry6, z6⟩
  have R6 := hread _ _ hI6
  have s6D := (Still.refl w6).toDrew
  refine ⟨fun wq => Still w6 wq, s6D, yieldV k, rfl, fun wq hq => (ry6.still hq).lget rfl, _, fun wq hq => (R6.at hq).box1.lget rfl, _, fun wq hq => (R6.at hq).nx, _, fun wq hq => (R6.at hq).box2.lget rfl, ?_⟩
  refine (head_spec he (R6.at s6D).still 48 j.l.length t (by omega) ht).mono ?_
  rintro _ w7 ⟨rfl, s7⟩
  have s7 := s6D.trans s7
  refine .inl ⟨_, rfl, s7, (hstep _ _ _ wrs_head (kI hI6 s7)).mono ?_⟩
  rintro _ w8 ⟨⟨o, rfl, hA, hB⟩, m8⟩
  refine ⟨o, rfl, bsel_of (fun ho => ⟨rfl, .inr (hB (by simpa using ho))⟩) (fun ho => ?_)⟩
  have hI8 := hA (by simpa using ho)
  have R8 := hread _ _ hI8
  have ry8 := (ry6.still s7).mod m8 (fun h => Nat.lt_irrefl _ h)
  have z8 : w.heap.size < w8.heap.size := by have := s7.size; have := m8.size; omega
  refine ⟨_, R8.box1.lget rfl, _, R8.nx, boxK rfl (by simp [Value.oneCell']) fun w10 ra s10 z10 => ?_⟩
  have hI10 := kI hI8 s10
  have R10 := hread _ _ hI10
  refine ⟨_, R10.box2.lget rfl, by omega, fun cp w11 ho11 hg11 => ?_⟩
  have s11 : Still w10 w11 := (Mod.refl _ _).grown hg11 fun _ h => by cases h
  have hI11 := kI hI10 s11
  refine Calls.mono (mkChunk_spec (w := w11) (q := w10.heap.size) (C := cp) (t := t) (K := fun w' => Row w' w11.heap.size 46 ⟨[.slice (some ⟨w10.heap.size, 0, none⟩) t.length cp]⟩ ∧ Row w' (w11.heap.size + 1) 3 ⟨[.int .i64 64]⟩ ∧ Still w11 w' ∧ w'.heap.size = w11.heap.size + 2) _ _ rfl rfl fun w' h1 h2 h3 h4 => ⟨h1, h2, h3, h4⟩) ?_
  rintro _ w12 ⟨rfl, rs, rn, s12, z12⟩
  refine .inl ⟨_, rfl, rfl, calleeK_mk (g := fn_slices_Chunk_byte_byte_1) (first := []) (cap := [.pointer (some ⟨w11.heap.size, 0, none⟩), .pointer (some ⟨w11.heap.size + 1, 0, none⟩)]) ?_⟩
  refine bsel_of (fun _ => ?_) (fun h => absurd h (by rw [show callable Tryd.prog fn_slices_Chunk_byte_byte_1 = true by kernel_rfl]; decide))
  intro rec hst hpd hY
  have hI12 := kI hI11 s12
  have z11 := s11.size
  -- the worlds of the pieces
  let Own : World → Prop := fun w' => Row w' w.heap.size 71 ⟨[yieldV k]⟩ ∧ Row w' w11.heap.size 46 ⟨[.slice (some ⟨w10.heap.size, 0, none⟩) t.length cp]⟩ ∧ Row w' (w11.heap.size + 1) 3 ⟨[.int .i64 64]⟩ ∧
    Owns w' w10.heap.size 5 1 (.slice (some ⟨w10.heap.size, 0, none⟩) t.length cp) t.length (bc t) ∧ w'.heap[w12.heap.size]? = some (.deferred (some []))
  have hoc : Owns w11 w10.heap.size 5 1 (.slice (some ⟨w10.heap.size, 0, none⟩) t.length cp) t.length (bc t) := ho11.base fun k hk => by cases hk; exact Nat.le_refl _
  have keepO : ∀ {w1 w2 : World} {T : Nat → Prop}, Own w1 → Mod T w1 w2 → (∀ n, T n → n < w.heap.size ∨ n = w8.heap.size ∨ n = w12.heap.size + 1) → Own w2 := by
    rintro w1 w2 T ⟨o1, o2, o3, o4, o5⟩ hm hT
    have no : ∀ {n}, w.heap.size ≤ n → n ≠ w8.heap.size → n ≠ w12.heap.size + 1 → ¬ T n := fun h1 h2 h3 h => by
      rcases hT _ h with e | e | e
      · omega
      · exact h2 e
      · exact h3 e
    refine ⟨o1.mod hm (no (Nat.le_refl _) (by omega) (by omega)), o2.mod hm (no (by omega) (by omega) (by omega)), o3.mod hm (no (by omega) (by omega) (by omega)), o4.mod hm (fun k hk => ?_), heap_mod o5 hm (no (by omega) (by omega) (by omega))⟩
    obtain rfl : w10.heap.size = k := Option.some.inj hk
    exact no (by omega) (by omega) (by omega)
  let Ic : Nat → World → Prop := fun i w' => I (endN j t + 1 + i) w' ∧ Own w' ∧ Row w' w8.heap.size 3 ⟨[.int .i64 ((j.k + i : Nat) : Int)]⟩ ∧ w'.heap[w12.heap.size + 1]? = some (.loop rec)
  let Fc : World → Prop := fun w' => F w' ∧ Own w' ∧ w'.heap[w12.heap.size + 1]? = some (doneL rec .ret)
  have hstart : Ic 0 ((w12.alloc (.deferred (some []))).alloc (.loop rec)) := by
    have sA : Still w12 ((w12.alloc (.deferred (some []))).alloc (.loop rec)) := ((Mod.refl _ _).alloc _).alloc _
    have s0 := ((s10.trans s11).trans s12).trans sA
    refine ⟨kI hI8 s0, ⟨ry8.still s0, (rs.still sA), rn.still sA, (hoc.still s12).still sA, ?_⟩, ((ra.still s11).still s12).still sA, ?_⟩
    · rw [Below.heap_alloc _ _ _ (by simp)]
      exact World.alloc_heap_new _ _
    · have := World.alloc_heap_new (w12.alloc (.deferred (some []))) (.loop rec)
      rwa [World.size_alloc] at this
  refine (chunk_spec (gs := w11.heap.size) (gn := w11.heap.size + 1) (q := w10.heap.size) (C := cp) (t := t) (B := w10.heap.size) (k := w12.heap.size + 1) Ic Fc ht hstart (fun i w1 h => ⟨h.2.1.2.1, h.2.1.2.2.1, h.2.1.2.2.2.1⟩)
    (fun i w1 h => ⟨kI h.1 (Still.refl w1).toDrew, h.2.1, h.2.2.1, h.2.2.2⟩) (fun i w1 q D hi h hby => ?_)).mono ?_
  · obtain ⟨hi1, ho1, ha1, hr1⟩ := h
    refine hY _ _ _ w1 _ hr1 ⟨rfl, hr1, ?_⟩
    have mp : Mod (fun n => n = w12.heap.size + 1) w1 (w1.putObj (w12.heap.size + 1) (busyL rec)) := mput _ _ _
    have ha2 := ha1.mod mp (by omega)
    have hb2 : (w1.putObj (w12.heap.size + 1) (busyL rec)).heap[w12.heap.size + 1]? = some (busyL rec) := World.putObj_heap_same (heap_lt hr1)
    refine letIn ⟨_, ha2.lget rfl, stK (g := w8.heap.size) (o := 0) ha2 (by simp) (by simp [Value.oneCell']) fun w16 r16 m16 z16 => ?_⟩
    simp only [ovw, List.set_cons_zero] at r16
    have m116 : Mod (fun n => n = w8.heap.size ∨ n = w12.heap.size + 1) w1 w16 := Mod.trans mp m16 (fun _ h => .inr h) (fun _ _ h => .inl h)
    have ho16 := keepO ho1 m116 (fun n h => .inr h)
    have hb16 := heap_mod hb2 m16 (by omega)
    have e1 : IntKind.i64.wrap (((j.k + i : Nat) : Int) + 1) = ((j.k + 1 + i : Nat) : Int) := by rw [wrap_i64 (by omega) (by omega)]; omega
    rw [e1] at r16
    have hy := hstep (endN j t + 1 + i) _ w16 (wrs_piece hi) (hkI _ _ _ hi1 (m116.weaken fun n h => by rcases h with rfl | rfl <;> omega))
    refine ⟨yieldV k, rfl, ho16.1.lget rfl, _, r16.lget rfl, (t.drop (i * 64)).take 64, bytes_far hby ha1 hr1 m116, hy.mono ?_⟩
    rintro _ w17 ⟨⟨o, rfl, hA, hB⟩, m17⟩
    have ho17 := keepO ho16 m17 (fun n h => .inl h)
    have hb17 := heap_mod hb16 m17 (by omega)
    have r17 := r16.mod m17 (by omega)
    have mpo : ∀ x, Mod (fun n => n = w12.heap.size + 1) w17 (w17.putObj (w12.heap.size + 1) x) := fun x => mput _ _ _
    refine ⟨o, rfl, bsel_of (fun hx => ⟨hb17, false, rfl, fun h => (by cases h), fun _ => ?_⟩) (fun hx => ⟨hb17, true, rfl, fun _ => ?_, fun h => (by cases h)⟩)⟩
    · exact ⟨hkF _ _ (hB (by simpa using hx)) ((mpo _).weaken fun n h => by rw [h]; omega), keepO ho17 (mpo _) (fun n h => .inr (.inr h)), World.putObj_heap_same (heap_lt hb17)⟩
    · refine ⟨hkI _ _ _ (hA (by simpa using hx)) ((mpo _).weaken fun n h => by rw [h]; omega), keepO ho17 (mpo _) (fun n h => .inr (.inr h)), ?_, World.putObj_heap_same (heap_lt hb17)⟩
      have r18 := r17.mod (mpo (.loop rec)) (by omega)
      rw [show j.k + (i + 1) = j.k + 1 + i by omega]
      exact r18
  · rintro _ w14 ⟨rfl, h14⟩
    refine ⟨⟨_, rfl⟩, ?_⟩
    have mpo : ∀ x, Mod (fun n => n = w12.heap.size + 1) w14 (w14.putObj (w12.heap.size + 1) x) := fun x => mput _ _ _
    rcases h14 with ⟨hi14, ho14, ha14, hr14⟩ | ⟨hf14, ho14, hr14⟩
    · refine .inl ⟨hr14, ?_⟩
      generalize hw : w14.putObj (w12.heap.size + 1) (.loop { rec with state := .exhausted }) = w15
      have m15 : Mod (fun n => n = w12.heap.size + 1) w14 w15 := hw ▸ mpo _
      have hi15 := hkI _ _ _ hi14 (m15.weaken fun n h => by rw [h]; omega)
      have ho15 := keepO ho14 m15 (fun n h => .inr (.inr h))
      have R15 := hread _ _ hi15
      have s15D := (Still.refl w15).toDrew
      refine ⟨fun wq => Still w15 wq, s15D, yieldV k, rfl, fun wq hq => (ho15.1.still hq).lget rfl, _, fun wq hq => (R15.at hq).box1.lget rfl, _, fun wq hq => (R15.at hq).nx, _, fun wq hq => (R15.at hq).box2.lget rfl, ?_⟩
      refine (head_spec he (R15.at s15D).still 49 j.l.length t (by omega) ht).mono ?_
      rintro _ w18 ⟨rfl, s18⟩
      have s18 := s15D.trans s18
      refine .inl ⟨_, rfl, s18, (hstep _ _ _ wrs_last (kI hi15 s18)).mono ?_⟩
      rintro _ w19 ⟨⟨o, rfl, hA, hB⟩, m19⟩
      have ho18 := keepO ho15 s18 (fun n h => h.elim)
      have ho19 := keepO ho18 m19 (fun n h => .inl h)
      have md : Mod (fun n => w.heap.size ≤ n) w19 (w19.putObj w12.heap.size (.deferred none)) := (Mod.refl _ _).putObj (.inl (by omega)) _
      refine ⟨o, rfl, ho19.2.2.2.2, rfl, ?_⟩
      cases o with
      | true =>
        left
        rw [wrs_len]
        exact hkI _ _ _ (hA rfl) md
      | false => exact .inr (hkF _ _ (hB rfl) md)
    · refine .inr (.inl ⟨hr14, ?_, rfl, .inr ?_⟩)
      · exact heap_mod ho14.2.2.2.2 (mpo _) (by omega)
      · exact hkF _ _ (hkF _ _ hf14 ((mpo _).weaken fun n h => by rw [h]; omega)) ((Mod.refl _ _).putObj (.inl (by omega)) _)
theorem mkWrites_spec {gj : Nat} {t : Txt} : Calls Tryd.prog fn_journal_Journal_writes #[.pointer (some ⟨gj, 0, none⟩), .string (S t)] w (fun e w' => e = .returned (.func (.func fn_journal_Journal_writes_1) #[] #[.pointer (some ⟨w.heap.size, 0, none⟩), .pointer (some ⟨w.heap.size + 1, 0, none⟩)]) ∧
    Row w' w.heap.size 30 ⟨[.pointer (some ⟨gj, 0, none⟩)]⟩ ∧ Row w' (w.heap.size + 1) 9 ⟨[.string (S t)]⟩ ∧ Still w w' ∧ w'.heap.size = w.heap.size + 2) := by
  refine journal_Journal_writes_calls _ _ _ _ ?_
  refine allocK fun w1 r1 s1 z1 => allocK fun w2 r2 s2 z2 => ?_
  rw [z1] at r2 ⊢
  exact ⟨rfl, r1.still s2, r2, s1.trans s2, by omega⟩
theorem drop_at {α : Type} {l : List α} {i : Nat} {x : α} (h : l[i]? = some x) : l.drop i = x :: l.drop (i + 1) := by
  obtain ⟨hi, rfl⟩ := List.getElem?_eq_some_iff.1 h
  exact List.drop_eq_getElem_cons hi
set_option maxRecDepth 10000 in
set_option maxHeartbeats 1000000 in
theorem jappend_spec {gj g b : Nat} {rp : Option Nat} {j : Js} (he : Env w0) (h0 : Still w0 w) (h : Jr w0 w gj g b rp j) (ok : j.Ok) (t : Txt) :
    Calls Tryd.prog fn_journal_Journal_Append #[.pointer (some ⟨gj, 0, none⟩), .string (S t)] w (fun e w' => e = .returned (.int .i64 (j.append t).1) ∧ ∃ rp', Jr w0 w' gj g b rp' (j.append t).2 ∧ Mod (Foot gj g b rp) w w' ∧ NewOr rp rp' w) := by
  have hn2 := ok.s.n2
  have hk := ok.k
  have hlk := ok.l
  refine journal_Journal_Append_calls _ _ _ _ ?_
  refine allocK fun w1 rb s1 z1 => allocK fun w2 rr s2 z2 => ?_
  have rb2 := rb.still s2
  have s02 := s1.trans s2
  have modF : ∀ {w' : World}, Still w w' → Mod (Foot gj g b rp) w w' := fun h => h.weaken fun _ h => h.elim
  have ftW : ∀ {n}, Foot gj g b rp n → n < w.heap.size := fun hf => (h.foot hf).2
  refine bsel_of (fun hx => ?_) (fun hx => ?_)
  · have hx : 100000 < t.length := by have := of_decide_eq_true hx; omega
    refine stK (g := w1.heap.size) (o := 0) rr (by simp) (by simp [Value.oneCell']) fun w3 r3 m3 z3 => ?_
    simp only [ovw, List.set_cons_zero] at r3
    have e : j.append t = (2, j) := by unfold Js.append; rw [if_pos hx]
    rw [e]
    have s03 : Still w w3 := Mod.trans s02 m3 (fun _ h => h) (fun i hi e => by have := s1.size; omega)
    exact ⟨_, r3.lget rfl, rfl, rp, h.still s03, modF s03, NewOr.refl _ _⟩
  have htl : t.length ≤ 100000 := by have := of_decide_eq_false hx; omega
  have hc := cnt_le htl
  have s2D := s02.toDrew
  refine ⟨fun wq => Still w2 wq, (Still.refl w2).toDrew, _, fun wq hq => (rb2.still hq).lget rfl, _, fun wq hq => (h.still (s02.trans hq)).next, _, fun wq hq => (rb2.still hq).lget rfl, _, fun wq hq => (h.still (s02.trans hq)).devPtr, (sectors_spec t.length (by omega)).mono ?_⟩
  rintro _ w4 ⟨rfl, rfl⟩
  refine .inl ⟨_, rfl, (Still.refl w2).toDrew, (device_Size_spec (h.still s2D).dev).mono ?_⟩
  rintro _ w5 ⟨rfl, rfl⟩
  refine .inl ⟨_, rfl, (Still.refl w2).toDrew, ?_⟩
  rw [wrap_i64 (by omega) (by omega)]
  have rr5 := rr.still (Still.refl w2).toDrew
  refine bsel_of (fun hx => ?_) (fun hx => ?_)
  · have hx : j.s.n ≤ j.k + cnt t.length := by have := of_decide_eq_true hx; omega
    refine stK (g := w1.heap.size) (o := 0) rr5 (by simp) (by simp [Value.oneCell']) fun w3 r3 m3 z3 => ?_
    simp only [ovw, List.set_cons_zero] at r3
    have e : j.append t = (12, j) := by unfold Js.append; rw [if_neg (by omega), if_pos hx]
    rw [e]
    have s03 : Still w w3 := Mod.trans s2D m3 (fun _ h => h) (fun i hi e => by have := s1.size; omega)
    exact ⟨_, r3.lget rfl, rfl, rp, h.still s03, modF s03, NewOr.refl _ _⟩
  have hfit : j.k + cnt t.length < j.s.n := by have := of_decide_eq_false hx; omega
  have eapp : j.append t = if (runW j.s (j.wrs t)).1 = 0 then (0, ⟨(runW j.s (j.wrs t)).2, j.l ++ [t], j.k + 1 + cnt t.length⟩) else ((runW j.s (j.wrs t)).1, ⟨(runW j.s (j.wrs t)).2, j.l, j.k⟩) := by
    unfold Js.append
    rw [if_neg (by omega), if_neg (by omega)]
  have rb5 := rb2.still (Still.refl w2).toDrew
  generalize hwd : w2.drew = wd at *
  have zd : wd.heap.size = w2.heap.size := by rw [← hwd]; rfl
  refine ⟨_, rb5.lget rfl, mkWrites_spec.mono ?_⟩
  rintro _ w7 ⟨rfl, c1, c2, s7, z7⟩
  have s07 := s2D.trans s7
  have z1' := z1
  refine .inl ⟨_, rfl, rfl, calleeK_mk (g := fn_journal_Journal_writes_1) (first := []) (cap := [.pointer (some ⟨wd.heap.size, 0, none⟩), .pointer (some ⟨wd.heap.size + 1, 0, none⟩)]) ?_⟩
  refine bsel_of (fun _ => ?_) (fun h => absurd h (by rw [show callable Tryd.prog fn_journal_Journal_writes_1 = true by kernel_rfl]; decide))
  intro rec hst hpd hY
  have sA : Still w7 ((w7.alloc (.deferred (some []))).alloc (.loop rec)) := ((Mod.refl _ _).alloc _).alloc _
  generalize hW : (w7.alloc (.deferred (some []))).alloc (.loop rec) = W at *
  have zW : W.heap.size = w7.heap.size + 2 := by rw [← hW]; simp
  have s0W := s07.trans sA
  let Own : World → Prop := fun w' => Row w' wd.heap.size 30 ⟨[.pointer (some ⟨gj, 0, none⟩)]⟩ ∧ Row w' (wd.heap.size + 1) 9 ⟨[.string (S t)]⟩ ∧ Row w' w.heap.size 30 ⟨[.pointer (some ⟨gj, 0, none⟩)]⟩ ∧
    w'.heap[w7.heap.size]? = some (.deferred (some [])) ∧ Mod (Foot gj g b rp) w w'
  have hne : ∀ {n}, Foot gj g b rp n → n ≠ w1.heap.size ∧ n ≠ w7.heap.size + 1 ∧ n < w.heap.size := fun hf => by have := ftW hf; exact ⟨by omega, by omega, this⟩
  have keepO : ∀ {wa wb : World} {T : Nat → Prop}, Own wa → Mod T wa wb → (∀ n, T n → Foot gj g b rp n ∨ n = w1.heap.size ∨ n = w7.heap.size + 1 ∨ W.heap.size ≤ n) → Own wb := by
    rintro wa wb T ⟨o1, o2, o3, o4, o5⟩ hm hT
    have no : ∀ {n}, w.heap.size ≤ n → n ≠ w1.heap.size → n ≠ w7.heap.size + 1 → n < W.heap.size → ¬ T n := fun h1 h2 h3 h4 h => by
      rcases hT _ h with e | e | e | e
      · have := ftW e; omega
      · exact h2 e
      · exact h3 e
      · omega
    refine ⟨o1.mod hm (no (by omega) (by omega) (by omega) (by omega)), o2.mod hm (no (by omega) (by omega) (by omega) (by omega)), o3.mod hm (no (by omega) (by omega) (by omega) (by omega)), heap_mod o4 hm (no (by omega) (by omega) (by omega) (by omega)), Mod.trans o5 hm (fun _ h => h) (fun i hi hk => ?_)⟩
    rcases hT _ hk with e | e | e | e
    · exact e
    · omega
    · omega
    · omega
  let I : Nat → World → Prop := fun i w' => ∃ s', runW j.s (j.wrs t) = runW s' ((j.wrs t).drop i) ∧ s'.Ok ∧ s'.n = j.s.n ∧ Jr w0 w' gj g b rp ⟨s', j.l, j.k⟩ ∧ Own w' ∧ Row w' w1.heap.size 26 ⟨[.int .i64 0]⟩ ∧ w'.heap[w7.heap.size + 1]? = some (.loop rec)
  let F : World → Prop := fun w' => (runW j.s (j.wrs t)).1 ≠ 0 ∧ Jr w0 w' gj g b rp ⟨(runW j.s (j.wrs t)).2, j.l, j.k⟩ ∧ Own w' ∧ Row w' w1.heap.size 26 ⟨[.int .i64 (runW j.s (j.wrs t)).1]⟩ ∧ w'.heap[w7.heap.size + 1]? = some (doneL rec .ret)
  have hstart : I 0 W := by
    refine ⟨j.s, rfl, ok.s, rfl, h.still s0W, ⟨c1.still sA, c2.still sA, (rb5.still s7).still sA, ?_, modF s0W⟩, (rr5.still s7).still sA, ?_⟩
    · rw [← hW, Below.heap_alloc _ _ _ (by simp)]
      exact World.alloc_heap_new _ _
    · have := World.alloc_heap_new (w7.alloc (.deferred (some []))) (.loop rec)
      rw [World.size_alloc, hW] at this
      exact this
  have newT : ∀ {n}, W.heap.size ≤ n → Foot gj g b rp n ∨ n = w1.heap.size ∨ n = w7.heap.size + 1 ∨ W.heap.size ≤ n := fun h => .inr (.inr (.inr h))
  refine Calls.mono (writes_spec (w := W) (k := w7.heap.size + 1) (gj := gj) (g := g) (b := b) (gb1 := wd.heap.size) (gb2 := wd.heap.size + 1) (j := j) (t := t) he ok htl hfit I F hstart ?_ ?_ ?_ ?_) ?_
  · rintro i wa ⟨s', _, _, hsn, J, ho, _, _⟩
    obtain ⟨p, c, t1, _⟩ := J.top
    exact ⟨ho.1, ho.2.1, ⟨p, c, t1⟩, ⟨s', J.dev, hsn⟩, h.stays h0 ho.2.2.2.2⟩
  · rintro i wa wb ⟨s', e1, e2, e3, J, ho, hr, hl⟩ hm
    exact ⟨s', e1, e2, e3, J.mod hm (fun n hf => by have := ftW hf; omega), keepO ho hm fun n hn => newT hn, hr.mod hm (by omega), heap_mod hl hm (by omega)⟩
  · rintro wa wb ⟨e1, J, ho, hr, hl⟩ hm
    exact ⟨e1, J.mod hm (fun n hf => by have := ftW hf; omega), keepO ho hm fun n hn => newT hn, hr.mod hm (by omega), heap_mod hl hm (by omega)⟩
  · rintro i ⟨kx, tx⟩ wa hx ⟨s', e1, e2, e3, J, ho, hr, hl⟩
    have mp : Mod (fun n => n = w7.heap.size + 1) wa (wa.putObj (w7.heap.size + 1) (busyL rec)) := mput _ _ _
    refine hY _ _ wa _ hl ⟨rfl, hl, letIn ?_⟩
    have hb2 : (wa.putObj (w7.heap.size + 1) (busyL rec)).heap[w7.heap.size + 1]? = some (busyL rec) := World.putObj_heap_same (heap_lt hl)
    generalize hwb : wa.putObj (w7.heap.size + 1) (busyL rec) = wb at *
    have ho2 := keepO ho mp (fun n hn => .inr (.inr (.inl hn)))
    have J2 := J.mod mp (fun n hf e => (hne hf).2.1 e)
    have hr2 := hr.mod mp (by omega)
    refine ⟨_, ho2.2.2.1.lget rfl, _, J2.devPtr, (device_Write_spec J2.dev e2 kx tx).mono ?_⟩
    rintro _ wc ⟨rfl, mc, dc⟩
    have mcF : ∀ n, (n = g ∨ n = b) → Foot gj g b rp n := fun n hn => hn.elim .inl fun h => .inr (.inl h)
    have ho3 := keepO ho2 mc (fun n hn => .inl (mcF n hn))
    obtain ⟨hw1, hw2⟩ := write_ok e2 kx tx
    obtain ⟨p, c, t1, t2, t3⟩ := J2.top
    have J3 : Jr w0 wc gj g b rp ⟨(s'.write kx tx).2, j.l, j.k⟩ := by
      refine ⟨dc, ⟨p, c, t1.mod mc (fun e => e.elim (fun e => t1.ne J2.dev.top (by decide) e) (fun e => t1.ne J2.dev.bytes (by decide) e)), t2.mod mc (fun k hk e => ?_), t3⟩, h.low⟩
      obtain ⟨cur, hrr⟩ := t2.typed hk
      exact e.elim (fun e => hrr.ne J2.dev.top (by decide) e) (fun e => hrr.ne J2.dev.bytes (by decide) e)
    have noF : ∀ {n}, w.heap.size ≤ n → ¬ (n = g ∨ n = b) := fun h1 h2 => by have := ftW (mcF _ h2); omega
    have hb3 := heap_mod hb2 mc (noF (by omega))
    have hr3 := hr2.mod mc (noF (by omega))
    have hd := drop_at hx
    have erun : runW j.s (j.wrs t) = if (s'.write kx tx).1 = 0 then runW (s'.write kx tx).2 ((j.wrs t).drop (i + 1)) else s'.write kx tx := by
      rw [e1, hd]
      rfl
    have mac : Mod (fun n => n < W.heap.size) wa wc := Mod.trans mp mc (fun n hn => by rw [hn]; omega) (fun n _ hn => by have := ftW (mcF n hn); omega)
    refine .inl ⟨_, rfl, bsel_of (fun hz => ?_) (fun hz => ?_)⟩
    · have hz : ¬ (s'.write kx tx).1 = 0 := by simpa using hz
      rw [if_neg hz] at erun
      refine stK (g := w1.heap.size) (o := 0) hr3 (by simp) (by simp [Value.oneCell']) fun we r5 m5 z5 => ?_
      simp only [ovw, List.set_cons_zero] at r5
      have hb5 := heap_mod hb3 m5 (by omega)
      have J5 := J3.mod m5 (fun n hf e => (hne hf).1 e)
      have ho5 := keepO ho3 m5 (fun n hn => .inr (.inl hn))
      have mq := mput we (w7.heap.size + 1) (doneL rec .ret)
      refine ⟨hb5, ⟨false, rfl, fun h => (by cases h), fun _ => ⟨by rw [erun]; exact hz, by rw [erun]; exact J5.mod mq (fun n hf e => (hne hf).2.1 e), keepO ho5 mq (fun n hn => .inr (.inr (.inl hn))), by rw [erun]; exact r5.mod mq (by omega), World.putObj_heap_same (heap_lt hb5)⟩⟩, ?_⟩
      exact Mod.trans (Mod.trans mac m5 (U := fun n => n < W.heap.size) (fun _ h => h) (fun n _ hn => by rw [hn]; omega)) mq (fun _ h => h) (fun n _ hn => by rw [hn]; omega)
    · have hz : (s'.write kx tx).1 = 0 := by simpa using hz
      rw [if_pos hz] at erun
      have mq := mput wc (w7.heap.size + 1) (.loop rec)
      refine ⟨hb3, ⟨true, rfl, fun _ => ⟨(s'.write kx tx).2, erun, hw1, hw2.trans e3, J3.mod mq (fun n hf e => (hne hf).2.1 e), keepO ho3 mq (fun n hn => .inr (.inr (.inl hn))), hr3.mod mq (by omega), World.putObj_heap_same (heap_lt hb3)⟩, fun h => (by cases h)⟩, ?_⟩
      exact Mod.trans mac mq (fun _ h => h) (fun n _ hn => by rw [hn]; omega)
  · rintro _ w9 ⟨rfl, h9⟩
    refine ⟨⟨_, rfl⟩, ?_⟩
    rcases h9 with ⟨s', e1, e2, e3, J, ho, hr, hl⟩ | ⟨hz, J, ho, hr, hl⟩
    · refine .inl ⟨hl, ?_⟩
      have mq := mput w9 (w7.heap.size + 1) (.loop { rec with state := .exhausted })
      generalize hwq : w9.putObj (w7.heap.size + 1) (.loop { rec with state := .exhausted }) = wq at *
      have ho2 := keepO ho mq (fun n hn => .inr (.inr (.inl hn)))
      have J2 := J.mod mq (fun n hf e => (hne hf).2.1 e)
      have hr2 := hr.mod mq (by omega)
      refine ⟨_, ho2.2.2.1.lget rfl, letIn ?_⟩
      refine (jadd_spec (h.stays h0 ho2.2.2.2.2) J2 (by dsimp only; omega) (by dsimp only; omega) t htl).mono ?_
      rintro _ wr ⟨rfl, rp', J3, m3, n3⟩
      have ho3 := keepO ho2 m3 (fun n hn => .inl hn.foot)
      have hr3 := hr2.mod m3 (fun hf => by have := (hne hf.foot).1; omega)
      refine .inl ⟨rfl, stK (g := w1.heap.size) (o := 0) hr3 (by simp) (by simp [Value.oneCell']) fun wt r5 m5 z5 => ?_⟩
      simp only [ovw, List.set_cons_zero] at r5
      have ho5 := keepO ho3 m5 (fun n hn => .inr (.inl hn))
      have hzq : wq.heap.size = w9.heap.size := by rw [← hwq]; simp
      have z9 : w7.heap.size + 1 < w9.heap.size := heap_lt hl
      have ftN : ∀ {n}, Foot gj g b rp' n → n < w.heap.size ∨ w9.heap.size ≤ n := fun hf => by
        rcases hf with rfl | rfl | rfl | hf
        · exact .inl (ftW (.inl rfl))
        · exact .inl (ftW (.inr (.inl rfl)))
        · exact .inl (ftW (.inr (.inr (.inl rfl))))
        · rcases n3 _ hf with e | e
          · exact .inl (ftW (.inr (.inr (.inr e))))
          · exact .inr (by omega)
      have J5 := J3.mod m5 (fun n hf e => by rcases ftN hf with h1 | h1 <;> omega)
      have md := mput wt w7.heap.size (.deferred none)
      refine ⟨ho5.2.2.2.1, _, (r5.mod md (by omega)).lget rfl, ?_⟩
      have erun : runW j.s (j.wrs t) = (0, s') := by
        rw [e1, List.drop_length]
        rfl
      rw [eapp, erun, if_pos rfl]
      refine ⟨rfl, rp', J5.mod md (fun n hf e => by rcases ftN hf with h1 | h1 <;> omega), Mod.trans ho5.2.2.2.2 md (fun _ h => h) (fun i hi e => by omega), fun n hn => ?_⟩
      rcases n3 n hn with e | e
      · exact .inl e
      · exact .inr (by omega)
    · refine .inr (.inl ⟨hl, ?_⟩)
      have mq := mput w9 (w7.heap.size + 1) (.loop { rec with state := .exhausted, pending := some .ret })
      generalize hwq : w9.putObj (w7.heap.size + 1) (.loop { rec with state := .exhausted, pending := some .ret }) = wq at *
      have ho2 := keepO ho mq (fun n hn => .inr (.inr (.inl hn)))
      have J2 := J.mod mq (fun n hf e => (hne hf).2.1 e)
      have hr2 := hr.mod mq (by omega)
      have md := mput wq w7.heap.size (.deferred none)
      refine ⟨ho2.2.2.2.1, _, (hr2.mod md (by omega)).lget rfl, ?_⟩
      rw [eapp, if_neg hz]
      exact ⟨rfl, rp, J2.mod md (fun n hf e => by have := ftW hf; omega), Mod.trans ho2.2.2.2.2 md (fun _ h => h) (fun i hi e => by omega), NewOr.refl _ _⟩
theorem sha_a : sha [97] = [99, 97, 57, 55, 56, 49, 49, 50, 99, 97, 49, 98, 98, 100, 99, 97, 102, 97, 99, 50, 51, 49, 98, 51, 57, 97, 50, 51, 100, 99, 52, 100, 97, 55, 56, 54, 101, 102, 102, 56, 49, 52, 55, 99, 52, 101, 55, 50, 98, 57, 56, 48, 55, 55, 56, 53, 97, 102, 101, 101, 52, 56, 98, 98] := by kernel_rfl
theorem opened_new (n : Nat) (h : 0 < n) : Js.opened (St.new n) = ⟨St.new n, [], 0⟩ := by
  have hs : sec (St.new n) 0 = List.replicate 64 0 := by
    unfold sec
    rw [if_pos (show 0 < (St.new n).n from h)]
    exact List.eq_replicate_iff.2 ⟨rfl, fun b hb => by
      simp only [rowF, List.mem_map] at hb
      obtain ⟨_, _, rfl⟩ := hb
      rfl⟩
  have hr : readR (St.new n) 0 0 = none := by
    unfold readR sizeR
    rw [hs]
    rfl
  have ho : openR (St.new n) = ([], 0) := by
    show openF (n + 1) (St.new n) [] 0 = _
    simp only [openF, List.length_nil, hr]
  unfold Js.opened
  rw [ho]
theorem write_endless {s : St} (he : s.e = true) {k : Nat} (hk : k < s.n) {x : Txt} (hx : x.length ≤ 64) : s.write (k : Int) x = (0, s.put k fun i => x.getD i 0) := by
  unfold St.write
  rw [if_pos ⟨by omega, by omega, hx⟩, if_pos he, Int.toNat_natCast]
theorem new_ok {n : Nat} (h1 : 1 ≤ n) (h2 : n ≤ 4096) : (St.new n).Ok := ⟨h1, h2, Int.le_refl _, (by decide : (0 : Int) < 9223372036854775808), Int.le_refl _, (by decide : (0 : Int) < 18446744073709551616)⟩
theorem awake_run : ∃ s', (⟨St.new 5, [], 0⟩ : Js).append [97] = (0, ⟨s', [[97]], 2⟩) ∧ sec s' 0 = pad (hd 49 0 [97]) := by
  have h48 : (hd 48 0 [97]).length ≤ 64 := hd_len (by decide) (by decide)
  have h49 : (hd 49 0 [97]).length ≤ 64 := hd_len (by decide) (by decide)
  have hw : wrs (St.new 5) 0 0 [97] = [(2, []), (0, hd 48 0 [97]), (1, [97]), (0, hd 49 0 [97])] := rfl
  have e1 : (St.new 5).write ((2 : Nat) : Int) [] = (0, (St.new 5).put 2 fun i => ([] : Txt).getD i 0) := write_endless rfl (by decide) (by decide)
  have e2 : ((St.new 5).put 2 fun i => ([] : Txt).getD i 0).write ((0 : Nat) : Int) (hd 48 0 [97]) = _ := write_endless rfl (by decide) h48
  have e3 : (((St.new 5).put 2 fun i => ([] : Txt).getD i 0).put 0 fun i => (hd 48 0 [97]).getD i 0).write ((1 : Nat) : Int) [97] = _ := write_endless rfl (by decide) (by decide)
  have e4 : ((((St.new 5).put 2 fun i => ([] : Txt).getD i 0).put 0 fun i => (hd 48 0 [97]).getD i 0).put 1 fun i => ([97] : Txt).getD i 0).write ((0 : Nat) : Int) (hd 49 0 [97]) = _ := write_endless rfl (by decide) h49
  have hr : runW (St.new 5) (wrs (St.new 5) 0 0 [97]) = (0, ((((St.new 5).put 2 fun i => ([] : Txt).getD i 0).put 0 fun i => (hd 48 0 [97]).getD i 0).put 1 fun i => ([97] : Txt).getD i 0).put 0 fun i => (hd 49 0 [97]).getD i 0) := by
    rw [hw]
    simp only [runW, e1, e2, e3, e4, if_true]
  refine ⟨((((St.new 5).put 2 fun i => ([] : Txt).getD i 0).put 0 fun i => (hd 48 0 [97]).getD i 0).put 1 fun i => ([97] : Txt).getD i 0).put 0 fun i => (hd 49 0 [97]).getD i 0, ?_, ?_⟩
  · have := append_run (j := ⟨St.new 5, [], 0⟩) (t := [97]) (by decide) (by decide) hr
    rw [this, if_pos rfl]
    rfl
  · unfold sec
    rw [if_pos (by decide)]
    rw [rowF_put_here, rowF_pad _ h49]
theorem awake4_spec (he : Env w0) (h0 : Still w0 w) : Calls Tryd.prog fn_law04_awake #[] w (fun e w' => e = .returned (.bool true) ∧ Still w w') := by
  refine law04_awake_calls _ _ ?_
  refine (device_New_spec (n := 5) (by decide) (by decide)).mono ?_
  rintro _ w1 ⟨g, b, rfl, m1, hg, hb, d1⟩
  have s1 : Still w w1 := m1
  have hz := h0.size
  refine .inl ⟨_, _, rfl, bsel_of (fun h => by cases h) (fun _ => ?_)⟩
  refine (jopen_spec he (h0.trans s1) d1 (new_ok (by decide) (by decide)) (by omega) (by omega)).mono ?_
  rintro _ w2 ⟨gj, rp, rfl, s2, hgj, hrp, J2⟩
  rw [show Int.toNat 5 = 5 from rfl, opened_new 5 (by decide)] at J2
  refine .inl ⟨_, rfl, bsel_of (fun h => by cases h) (fun _ => ?_)⟩
  have ok5 : (⟨St.new 5, [], 0⟩ : Js).Ok := ⟨new_ok (by decide) (by decide), by decide, Nat.le_refl _⟩
  refine (jappend_spec he ((h0.trans s1).trans s2) J2 ok5 [97]).mono ?_
  rintro _ w3 ⟨rfl, rp3, J3, m3, n3⟩
  obtain ⟨s', ha, hsec⟩ := awake_run
  rw [ha] at J3 ⊢
  have s13 : Still w w3 := Mod.trans (s1.trans s2) m3 (fun _ h => h) (fun i hi hk => by
    rcases hk with rfl | rfl | rfl | hk
    · omega
    · omega
    · have := s1.size; omega
    · rcases hrp _ hk with e | e
      · cases e
      · have := s1.size; omega)
  refine .inl ⟨_, rfl, (read_sec J3.dev 0).mono ?_⟩
  rintro _ w4 ⟨⟨x, rfl⟩, rfl⟩
  rw [hsec]
  refine .inl ⟨_, _, rfl, bsel_of (fun _ => ?_) (fun h => by cases h)⟩
  have hpl : (pad (hd 49 0 [97])).length = 64 := by
    have := hd_len (m := 49) (n := 0) (t := [97]) (by decide) (by decide)
    unfold pad
    rw [List.length_append, List.length_replicate]
    omega
  refine bsel_of (fun _ => ?_) (fun h => by rw [hpl] at h; cases h)
  have htk : (pad (hd 49 0 [97])).take 28 = [49, 49, 58, 48, 44, 49, 58, 49, 44, 49, 54, 58, 99, 97, 57, 55, 56, 49, 49, 50, 99, 97, 49, 98, 98, 100, 99, 97] := by
    have d0 : dec 0 = [48] := dec_small (by decide)
    have d1 : dec 1 = [49] := dec_small (by decide)
    have l16 : ((sha [97]).take 16).length = 16 := by rw [List.length_take, sha_len]; rfl
    have d16 : dec 16 = [49, 54] := by
      rw [dec_step (by decide), dec_small (by decide)]
      rfl
    have e : hd 49 0 [97] = [49, 49, 58, 48, 44, 49, 58, 49, 44, 49, 54, 58] ++ (sha [97]).take 16 ++ [44] := by
      simp [hd, encode, one, d0, d1, d16, sha_len]
    unfold pad
    rw [e, sha_a]
    rfl
  refine ⟨by decide, by rw [hpl]; decide, bsel_of (fun _ => ?_) (fun h => ?_)⟩
  · refine (jrecords_spec J3 (show 1 ≤ 5000 by decide)).mono ?_
    rintro _ w5 ⟨q, D, rfl, o5, s5⟩
    refine .inl ⟨_, _, _, rfl, allocK fun w6 r6 s6 z6 => ?_⟩
    refine (same_spec (la := [[97]]) (lb := [[97]]) ((StrsAt.of o5).still s6) (StrsAt.row (l := [[97]]) r6) (show 1 < 1000000000000000 by decide)).mono ?_
    rintro _ w7 ⟨rfl, s7⟩
    exact .inl ⟨_, rfl, rfl, ((s13.trans s5).trans s6).trans s7⟩
  · rw [show Int.toNat 28 = 28 from rfl, htk] at h
    cases h
end Go.Proofs.YtddkalfffhkkkaaDoor
namespace Go.Proofs.YtddkalfffhkkkaaDoor
open Go.RowKit Vc
def Ch (s : St) : Nat → Nat → List Txt → Nat → Prop
  | i, _, [], k => i = k
  | i, n, t :: l, k => readR s i n = some t ∧ Ch s (i + 1 + cnt t.length) (n + 1) l k
def Stop (s : St) (k : Nat) : Prop := s.n ≤ k ∨ s.F (k * 64) ≠ 49
theorem Ch.le {s : St} : ∀ {l : List Txt} {i n k : Nat}, Ch s i n l k → i + l.length ≤ k
  | [], i, n, k, h => by
    have : i = k := h
    simp only [List.length_nil]
    omega
  | t :: l, i, n, k, h => by
    have := Ch.le h.2
    simp only [List.length_cons]
    omega
theorem openF_ch {s : St} : ∀ {l : List Txt} {f i : Nat} {l0 : List Txt} {k : Nat}, Ch s i l0.length l k → readR s k (l0.length + l.length) = none → l.length < f → openF f s l0 i = (l0 ++ l, k)
  | [], f, i, l0, k, h, hz, hf => by
    obtain rfl : i = k := h
    cases f with
    | zero => simp at hf
    | succ f =>
      simp only [openF]
      rw [show readR s i l0.length = none from hz]
      simp
  | t :: l, f, i, l0, k, h, hz, hf => by
    cases f with
    | zero => simp at hf
    | succ f =>
      simp only [openF]
      rw [h.1]
      have hl : (l0 ++ [t]).length = l0.length + 1 := by simp
      have h2 := openF_ch (l := l) (f := f) (i := i + 1 + cnt t.length) (l0 := l0 ++ [t]) (k := k) (by rw [hl]; exact h.2) (by rw [hl, show l0.length + 1 + l.length = l0.length + (t :: l).length by simp only [List.length_cons]; omega]; exact hz) (by simp only [List.length_cons] at hf; omega)
      dsimp only
      rw [h2, List.append_assoc]
      rfl
theorem opened_ch {s : St} {l : List Txt} {k : Nat} (h : Ch s 0 0 l k) (hz : readR s k l.length = none) (hk : k ≤ s.n) : Js.opened s = ⟨s, l, k⟩ := by
  have hle := h.le
  have e : openR s = (l, k) := by
    have := openF_ch (l0 := []) (f := s.n + 1) h (by rw [show ([] : List Txt).length + l.length = l.length by simp]; exact hz) (by omega)
    simpa [openR] using this
  unfold Js.opened
  rw [e]
theorem readR_far {s s' : St} (hn : s'.n = s.n) {i n : Nat} {t : Txt} (h : readR s i n = some t) (hF : ∀ j, j < (i + 1 + cnt t.length) * 64 → s'.F j = s.F j) : readR s' i n = some t := by
  have h1 := readR_some h
  have hs : sec s' i = sec s i := by
    unfold sec
    rw [hn, if_pos (by omega), if_pos (by omega)]
    exact rowF_congr fun j hj => hF _ (by omega)
  unfold readR at h ⊢
  rw [hs, hn]
  cases hk : sizeR (sec s i) with
  | none => rw [hk] at h; cases h
  | some k =>
    rw [hk] at h
    dsimp only at h ⊢
    split at h
    · cases h
    · rename_i h2
      rw [if_neg h2]
      split at h
      · rename_i h3
        obtain rfl := Option.some.inj h
        rw [rowF_length] at hF
        have e : rowF s'.F ((i + 1) * 64) k = rowF s.F ((i + 1) * 64) k := rowF_congr fun j hj => hF _ (by unfold cnt; omega)
        rw [e, if_pos h3]
      · cases h
theorem Ch.far {s s' : St} (hn : s'.n = s.n) : ∀ {l : List Txt} {i n k : Nat}, Ch s i n l k → (∀ j, j < k * 64 → s'.F j = s.F j) → Ch s' i n l k
  | [], _, _, _, h, _ => h
  | t :: l, i, n, k, h, hF => ⟨readR_far hn h.1 fun j hj => hF j (by have := Ch.le h.2; omega), Ch.far hn h.2 hF⟩
theorem Ch.more {s : St} {t : Txt} : ∀ {l : List Txt} {i n k : Nat}, Ch s i n l k → readR s k (n + l.length) = some t → Ch s i n (l ++ [t]) (k + 1 + cnt t.length)
  | [], i, n, k, h, ht => by
    obtain rfl : i = k := h
    exact ⟨ht, rfl⟩
  | x :: l, i, n, k, h, ht => ⟨h.1, Ch.more h.2 (by rw [show n + 1 + l.length = n + (x :: l).length by simp only [List.length_cons]; omega]; exact ht)⟩
theorem readR_none {s : St} {k n : Nat} (h : (sec s k).head? ≠ some 49) : readR s k n = none := by
  have e : sizeR (sec s k) = none := by
    unfold sizeR
    split
    · rfl
    · rename_i m r hm
      split
      · rename_i e
        obtain ⟨z, hz⟩ := trimZ_form (sec s k)
        rw [hm, e] at hz
        exact absurd (by rw [hz]; rfl) h
      · rfl
  unfold readR
  rw [e]
theorem Stop.none {s : St} {k : Nat} (h : Stop s k) (n : Nat) : readR s k n = none := by
  apply readR_none
  unfold sec
  split
  · rcases h with h | h
    · omega
    · rw [List.head?_eq_getElem?, rowF_get (by decide)]
      simpa using h
  · simp
theorem readR_good {s : St} {k n : Nat} {t : Txt} (hn : n ≤ 5000) (ht : t.length ≤ 100000) (hk : k + cnt t.length < s.n) (h1 : rowF s.F (k * 64) 64 = pad (hd 49 n t)) (h2 : rowF s.F ((k + 1) * 64) t.length = t) : readR s k n = some t := by
  have e1 : sec s k = pad (hd 49 n t) := by unfold sec; rw [if_pos (by omega), h1]
  have e2 : trimZ (sec s k) = hd 49 n t := by rw [e1]; exact trimZ_zeros hd_last _
  have e3 : sizeR (sec s k) = some t.length := by
    unfold sizeR
    rw [e2]
    show (if (49 : UInt8) = 49 then sizeD (decode (encode [dec n, dec t.length, (sha t).take 16])) else none) = _
    rw [if_pos rfl, decode_encode (few_nine (by have := hd_total n t hn ht; omega))]
    show sizeN (numR (dec t.length)) = _
    rw [numR_dec (dec_len9 (by omega))]
    show (if t.length ≤ 100000 then some t.length else none) = _
    rw [if_pos ht]
  unfold readR
  rw [e3]
  dsimp only
  rw [if_neg (by omega), h2, e2, if_pos rfl]
def InR (n : Nat) (ws : List (Nat × Txt)) : Prop := ∀ p ∈ ws, p.1 < n ∧ p.2.length ≤ 64
theorem InR.tail {n : Nat} {p : Nat × Txt} {ws : List (Nat × Txt)} (h : InR n (p :: ws)) : InR n ws := fun q hq => h q (List.mem_cons_of_mem _ hq)
theorem write_any {s : St} {k : Nat} {x : Txt} (hk : k < s.n) (hx : x.length ≤ 64) : (s.write (k : Int) x).2.n = s.n ∧
    ∀ j, (s.write (k : Int) x).2.F j = s.F j ∨ (k * 64 ≤ j ∧ j < k * 64 + 64 ∧ (s.write (k : Int) x).2.F j = x.getD (j - k * 64) 0) := by
  have put : ∀ j, (s.put k fun j => x.getD j 0).F j = s.F j ∨ (k * 64 ≤ j ∧ j < k * 64 + 64 ∧ (s.put k fun j => x.getD j 0).F j = x.getD (j - k * 64) 0) := by
    intro j
    simp only [St.put]
    by_cases h : k * 64 ≤ j ∧ j < k * 64 + 64
    · rw [if_pos h]; exact .inr ⟨h.1, h.2, rfl⟩
    · rw [if_neg h]; exact .inl rfl
  unfold St.write
  rw [if_pos ⟨by omega, by omega, hx⟩, Int.toNat_natCast]
  split
  · exact ⟨rfl, put⟩
  · split
    · exact ⟨rfl, put⟩
    · refine ⟨rfl, fun j => ?_⟩
      simp only [tornF]
      by_cases h : k * 64 ≤ j ∧ j < k * 64 + 64 ∧ bit s.m (j - k * 64) = true
      · rw [if_pos h]; exact .inr ⟨h.1, h.2.1, rfl⟩
      · rw [if_neg h]; exact .inl rfl
theorem write_got {s : St} {k : Nat} {x : Txt} (hk : k < s.n) (hx : x.length ≤ 64) (h : (s.write (k : Int) x).1 = 0) : ∀ c, rowF (s.write (k : Int) x).2.F (c * 64) 64 = if k = c then pad x else rowF s.F (c * 64) 64 := by
  have put : ∀ c, rowF (s.put k fun j => x.getD j 0).F (c * 64) 64 = if k = c then pad x else rowF s.F (c * 64) 64 := by
    intro c
    by_cases e : k = c
    · subst e
      rw [if_pos rfl, rowF_put_here, rowF_pad x hx]
    · rw [if_neg e, rowF_put_far s (Ne.symm e)]
  unfold St.write at h ⊢
  rw [if_pos ⟨by omega, by omega, hx⟩, Int.toNat_natCast] at h ⊢
  by_cases he : s.e = true
  · rw [if_pos he]; exact put
  · rw [if_neg he] at h ⊢
    by_cases hp : 0 < s.p
    · rw [if_pos hp]; exact put
    · rw [if_neg hp] at h; exact absurd h (show ¬ (13 : Int) = 0 by decide)
theorem runW_any : ∀ (ws : List (Nat × Txt)) {s : St}, InR s.n ws → (runW s ws).2.n = s.n ∧
    ∀ j, (runW s ws).2.F j = s.F j ∨ ∃ p ∈ ws, p.1 * 64 ≤ j ∧ j < p.1 * 64 + 64 ∧ (runW s ws).2.F j = p.2.getD (j - p.1 * 64) 0
  | [], s, _ => ⟨rfl, fun j => .inl rfl⟩
  | (k, x) :: ws, s, h => by
    obtain ⟨h1, h2⟩ := write_any (h _ (List.mem_cons_self ..)).1 (h _ (List.mem_cons_self ..)).2
    simp only [runW]
    split
    · obtain ⟨h3, h4⟩ := runW_any ws (s := (s.write (k : Int) x).2) (by rw [h1]; exact h.tail)
      refine ⟨h3.trans h1, fun j => ?_⟩
      rcases h4 j with h4 | ⟨p, hp, h5, h6, h7⟩
      · rcases h2 j with h2 | ⟨h5, h6, h7⟩
        · exact .inl (h4.trans h2)
        · exact .inr ⟨_, List.mem_cons_self .., h5, h6, h4.trans h7⟩
      · exact .inr ⟨p, List.mem_cons_of_mem _ hp, h5, h6, h7⟩
    · refine ⟨h1, fun j => ?_⟩
      rcases h2 j with h2 | ⟨h5, h6, h7⟩
      · exact .inl h2
      · exact .inr ⟨_, List.mem_cons_self .., h5, h6, h7⟩
def lastW (ws : List (Nat × Txt)) (c : Nat) (o : Txt) : Txt := ws.foldl (fun o p => if p.1 = c then pad p.2 else o) o
theorem runW_got : ∀ (ws : List (Nat × Txt)) {s : St}, InR s.n ws → (runW s ws).1 = 0 → ∀ c, rowF (runW s ws).2.F (c * 64) 64 = lastW ws c (rowF s.F (c * 64) 64)
  | [], s, _, _, c => rfl
  | (k, x) :: ws, s, h, h0, c => by
    obtain ⟨hk, hx⟩ := h _ (List.mem_cons_self ..)
    simp only [runW] at h0 ⊢
    by_cases e : (s.write (k : Int) x).1 = 0
    · rw [if_pos e] at h0 ⊢
      have h1 := (write_any hk hx).1
      rw [runW_got ws (by rw [h1]; exact h.tail) h0 c, write_got hk hx e c]
      rfl
    · rw [if_neg e] at h0
      exact absurd h0 e
theorem runW_app : ∀ (a b : List (Nat × Txt)) (s : St), runW s (a ++ b) = if (runW s a).1 = 0 then runW (runW s a).2 b else runW s a
  | [], b, s => by simp [runW]
  | (k, x) :: a, b, s => by
    by_cases e : (s.write (k : Int) x).1 = 0
    · have e1 : ∀ c, runW s ((k, x) :: c) = runW (s.write (k : Int) x).2 c := fun c => by simp only [runW]; rw [if_pos e]
      rw [List.cons_append, e1, e1]
      exact runW_app a b _
    · have e1 : ∀ c, runW s ((k, x) :: c) = s.write (k : Int) x := fun c => by simp only [runW]; rw [if_neg e]
      rw [List.cons_append, e1, e1, if_neg e]
theorem runW_endless : ∀ (ws : List (Nat × Txt)) {s : St}, InR s.n ws → s.e = true → (runW s ws).1 = 0 ∧ (runW s ws).2.e = true
  | [], s, _, he => ⟨rfl, he⟩
  | (k, x) :: ws, s, h, he => by
    obtain ⟨hk, hx⟩ := h _ (List.mem_cons_self ..)
    have e := write_endless he hk hx
    simp only [runW]
    rw [e]
    simp only [if_true]
    exact runW_endless ws (s := s.put k fun i => x.getD i 0) h.tail he
theorem lastW_app (a b : List (Nat × Txt)) (c : Nat) (o : Txt) : lastW (a ++ b) c o = lastW b c (lastW a c o) := List.foldl_append ..
theorem lastW_far : ∀ {ws : List (Nat × Txt)} {c : Nat} (o : Txt), (∀ p ∈ ws, p.1 ≠ c) → lastW ws c o = o
  | [], _, _, _ => rfl
  | p :: ws, c, o, h => by
    show lastW ws c (if p.1 = c then pad p.2 else o) = o
    rw [if_neg (h p (List.mem_cons_self ..))]
    exact lastW_far o fun q hq => h q (List.mem_cons_of_mem _ hq)
theorem lastW_one (k : Nat) (x o : Txt) : lastW [(k, x)] k o = pad x := by
  show (if k = k then pad x else o) = pad x
  rw [if_pos rfl]
theorem lastW_range (k : Nat) (g : Nat → Txt) (o : Txt) : ∀ {m i : Nat}, i < m → lastW ((List.range m).map fun i => (k + i, g i)) (k + i) o = pad (g i)
  | 0, i, h => by omega
  | m + 1, i, h => by
    rw [List.range_succ, List.map_append, lastW_app]
    by_cases e : i = m
    · subst e
      exact lastW_one _ _ _
    · rw [lastW_range k g o (m := m) (by omega)]
      exact lastW_far _ fun p hp => by
        simp only [List.map_cons, List.map_nil, List.mem_singleton] at hp
        rw [hp]
        dsimp only
        omega
def wrs0 (s : St) (k n : Nat) (t : Txt) : List (Nat × Txt) := (if k + 1 + cnt t.length < s.n then [(k + 1 + cnt t.length, [])] else []) ++ ((k, hd 48 n t) :: chunks (k + 1) t)
theorem wrs_split (s : St) (k n : Nat) (t : Txt) : wrs s k n t = wrs0 s k n t ++ [(k, hd 49 n t)] := by simp [wrs, wrs0]
theorem wrs0_mem {s : St} {k n : Nat} {t : Txt} {p : Nat × Txt} (h : p ∈ wrs0 s k n t) : (k + 1 + cnt t.length < s.n ∧ p = (k + 1 + cnt t.length, [])) ∨ p = (k, hd 48 n t) ∨ ∃ i, i < cnt t.length ∧ p = (k + 1 + i, (t.drop (i * 64)).take 64) := by
  unfold wrs0 at h
  rcases List.mem_append.1 h with h | h
  · split at h
    · rename_i hk
      exact .inl ⟨hk, List.mem_singleton.1 h⟩
    · cases h
  · rcases List.mem_cons.1 h with h | h
    · exact .inr (.inl h)
    · obtain ⟨i, hi, rfl⟩ := List.mem_map.1 h
      exact .inr (.inr ⟨i, List.mem_range.1 hi, rfl⟩)
theorem wrs0_in {s : St} {k n : Nat} {t : Txt} (hn : n ≤ 5000) (ht : t.length ≤ 100000) (hf : k + cnt t.length < s.n) : InR s.n (wrs0 s k n t) := by
  intro p hp
  rcases wrs0_mem hp with ⟨h, rfl⟩ | rfl | ⟨i, hi, rfl⟩
  · exact ⟨h, Nat.zero_le _⟩
  · exact ⟨by dsimp only; omega, hd_len hn ht⟩
  · exact ⟨by dsimp only; omega, by dsimp only; rw [List.length_take]; omega⟩
theorem wrs0_got {s : St} {k n : Nat} {t : Txt} (hn : n ≤ 5000) (ht : t.length ≤ 100000) (hf : k + cnt t.length < s.n) (h0 : (runW s (wrs0 s k n t)).1 = 0) :
    rowF (runW s (wrs0 s k n t)).2.F (k * 64) 64 = pad (hd 48 n t) ∧ (∀ i, i < cnt t.length → rowF (runW s (wrs0 s k n t)).2.F ((k + 1 + i) * 64) 64 = pad ((t.drop (i * 64)).take 64)) ∧
    (k + 1 + cnt t.length < s.n → rowF (runW s (wrs0 s k n t)).2.F ((k + 1 + cnt t.length) * 64) 64 = pad []) := by
  have hg := runW_got _ (wrs0_in hn ht hf) h0
  have hc : ∀ c o, c ≤ k → lastW (chunks (k + 1) t) c o = o := fun c o h => lastW_far _ fun p hp => by
    obtain ⟨i, hi, rfl⟩ := List.mem_map.1 hp
    dsimp only
    omega
  refine ⟨?_, fun i hi => ?_, fun hk => ?_⟩
  · rw [hg]
    unfold wrs0
    rw [lastW_app, show (k, hd 48 n t) :: chunks (k + 1) t = [(k, hd 48 n t)] ++ chunks (k + 1) t from rfl, lastW_app, lastW_one, hc k _ (Nat.le_refl _)]
  · rw [hg]
    unfold wrs0
    rw [lastW_app, show (k, hd 48 n t) :: chunks (k + 1) t = [(k, hd 48 n t)] ++ chunks (k + 1) t from rfl, lastW_app]
    exact lastW_range (k + 1) (fun i => (t.drop (i * 64)).take 64) _ hi
  · rw [hg]
    unfold wrs0
    rw [if_pos hk, lastW_app, lastW_one]
    refine lastW_far _ fun p hp => ?_
    rcases List.mem_cons.1 hp with rfl | hp
    · dsimp only; omega
    · obtain ⟨i, hi, rfl⟩ := List.mem_map.1 hp
      have := List.mem_range.1 hi
      dsimp only
      omega
theorem rowF_pieces {F : Nat → UInt8} {k : Nat} {t : Txt} (h : ∀ i, i < cnt t.length → rowF F ((k + 1 + i) * 64) 64 = pad ((t.drop (i * 64)).take 64)) : rowF F ((k + 1) * 64) t.length = t := by
  apply List.ext_getElem?
  intro j
  by_cases hj : j < t.length
  · have hc : j / 64 < cnt t.length := by unfold cnt; omega
    have h1 := congrArg (fun l : List UInt8 => l[j % 64]?) (h _ hc)
    rw [rowF_get (by omega)] at h1
    unfold pad at h1
    rw [List.getElem?_append_left (by rw [List.length_take, List.length_drop]; omega), List.getElem?_take_of_lt (by omega), List.getElem?_drop, show j / 64 * 64 + j % 64 = j by omega, show (k + 1 + j / 64) * 64 + j % 64 = (k + 1) * 64 + j by omega] at h1
    rw [rowF_get hj, h1]
  · rw [List.getElem?_eq_none (by simp; omega), List.getElem?_eq_none (by omega)]
theorem hd_tail {n : Nat} {t : Txt} {m m' : UInt8} : ∀ i, i ≠ 0 → (hd m n t).getD i 0 = (hd m' n t).getD i 0 := by
  intro i hi
  cases i with
  | zero => exact absurd rfl hi
  | succ i => rfl
theorem append_last {s1 s2 : St} {l : List Txt} {k : Nat} {t : Txt} {m : UInt8} (hl : l.length ≤ 5000) (ht : t.length ≤ 100000) (hf : k + cnt t.length < s1.n) (hn : s2.n = s1.n) (hch : Ch s1 0 0 l k)
    (h1 : rowF s1.F (k * 64) 64 = pad (hd m l.length t)) (h2 : ∀ i, i < cnt t.length → rowF s1.F ((k + 1 + i) * 64) 64 = pad ((t.drop (i * 64)).take 64)) (h3 : k + 1 + cnt t.length < s1.n → rowF s1.F ((k + 1 + cnt t.length) * 64) 64 = pad [])
    (h : ∀ j, s2.F j = s1.F j ∨ (k * 64 ≤ j ∧ j < k * 64 + 64 ∧ s2.F j = (hd 49 l.length t).getD (j - k * 64) 0)) (h49 : s2.F (k * 64) = 49) : Ch s2 0 0 (l ++ [t]) (k + 1 + cnt t.length) ∧ Stop s2 (k + 1 + cnt t.length) := by
  have far : ∀ j, j < k * 64 ∨ k * 64 + 64 ≤ j → s2.F j = s1.F j := fun j hj => (h j).elim id fun hh => by omega
  have hs : rowF s2.F (k * 64) 64 = pad (hd 49 l.length t) := by
    rw [← rowF_pad _ (hd_len hl ht)]
    apply List.map_congr_left
    intro i hi
    have hi := List.mem_range.1 hi
    rw [Nat.zero_add]
    by_cases e : i = 0
    · subst e
      exact h49
    · have h4 : s1.F (k * 64 + i) = (hd m l.length t).getD i 0 := by
        have := congrArg (fun x : List UInt8 => x[i]?) (h1.trans (rowF_pad _ (hd_len hl ht)).symm)
        rw [rowF_get hi, rowF_get hi, Nat.zero_add] at this
        exact Option.some.inj this
      rcases h (k * 64 + i) with h5 | ⟨_, _, h5⟩
      · rw [h5, h4]
        exact hd_tail i e
      · rw [h5, Nat.add_sub_cancel_left]
  have hp : rowF s2.F ((k + 1) * 64) t.length = t := rowF_pieces fun i hi => by
    rw [← h2 i hi]
    exact rowF_congr fun j hj => far _ (.inr (by omega))
  refine ⟨(hch.far hn fun j hj => far j (.inl hj)).more ?_, ?_⟩
  · rw [Nat.zero_add]
    exact readR_good hl ht (by omega) hs hp
  · by_cases hk : k + 1 + cnt t.length < s1.n
    · refine .inr ?_
      rw [far _ (.inr (by omega))]
      have := congrArg (fun x : List UInt8 => x[0]?) (h3 hk)
      rw [rowF_get (by decide)] at this
      rw [show pad [] = List.replicate 64 0 from rfl] at this
      have := Option.some.inj this
      rw [Nat.add_zero] at this
      rw [this]
      decide
    · exact .inl (by omega)
theorem append_crash {s : St} {l : List Txt} {k : Nat} {t : Txt} (hl : l.length ≤ 5000) (ht : t.length ≤ 100000) (hf : k + cnt t.length < s.n) (hch : Ch s 0 0 l k) :
    (runW s (wrs s k l.length t)).2.n = s.n ∧
    ((runW s (wrs s k l.length t)).1 = 0 → Ch (runW s (wrs s k l.length t)).2 0 0 (l ++ [t]) (k + 1 + cnt t.length) ∧ Stop (runW s (wrs s k l.length t)).2 (k + 1 + cnt t.length)) ∧
    (s.F (k * 64) ≠ 49 → (Ch (runW s (wrs s k l.length t)).2 0 0 l k ∧ Stop (runW s (wrs s k l.length t)).2 k) ∨ (Ch (runW s (wrs s k l.length t)).2 0 0 (l ++ [t]) (k + 1 + cnt t.length) ∧ Stop (runW s (wrs s k l.length t)).2 (k + 1 + cnt t.length))) := by
  have hin := wrs0_in hl ht hf
  obtain ⟨hn1, hany⟩ := runW_any _ hin
  have low : ∀ j, j < k * 64 → (runW s (wrs0 s k l.length t)).2.F j = s.F j := by
    intro j hj
    rcases hany j with h | ⟨p, hp, h5, h6, _⟩
    · exact h
    · rcases wrs0_mem hp with ⟨_, rfl⟩ | rfl | ⟨i, hi, rfl⟩ <;> (dsimp only at h5; omega)
  have hch1 := hch.far hn1 low
  rw [wrs_split, runW_app]
  by_cases e0 : (runW s (wrs0 s k l.length t)).1 = 0
  · rw [if_pos e0]
    obtain ⟨g1, g2, g3⟩ := wrs0_got hl ht hf e0
    generalize hs1 : (runW s (wrs0 s k l.length t)).2 = s1 at *
    have hk1 : k < s1.n := by omega
    obtain ⟨w1, w2⟩ := write_any hk1 (hd_len (m := 49) hl ht)
    have hfull := append_last (s2 := (s1.write (k : Int) (hd 49 l.length t)).2) hl ht (by omega) w1 hch1 g1 g2 (by rw [hn1]; exact g3) w2
    have hr : runW s1 [(k, hd 49 l.length t)] = s1.write (k : Int) (hd 49 l.length t) := by
      simp only [runW]
      split
      · rename_i h; exact Prod.ext h.symm rfl
      · rfl
    rw [hr]
    refine ⟨w1.trans hn1, fun h => hfull ?_, fun _ => ?_⟩
    · have := write_got hk1 (hd_len hl ht) h k
      rw [if_pos rfl] at this
      have := congrArg (fun x : List UInt8 => x[0]?) this
      rw [rowF_get (by decide)] at this
      exact Option.some.inj this
    · by_cases h49 : (s1.write (k : Int) (hd 49 l.length t)).2.F (k * 64) = 49
      · exact .inr (hfull h49)
      · refine .inl ⟨hch1.far w1 fun j hj => ?_, .inr h49⟩
        rcases w2 j with h | ⟨h5, _, _⟩
        · exact h
        · omega
  · rw [if_neg e0]
    refine ⟨hn1, fun h => absurd h e0, fun hz => .inl ⟨hch1, .inr ?_⟩⟩
    rcases hany (k * 64) with h | ⟨p, hp, h5, h6, h7⟩
    · rw [h]; exact hz
    · rcases wrs0_mem hp with ⟨_, rfl⟩ | rfl | ⟨i, hi, rfl⟩
      · dsimp only at h5; omega
      · rw [h7, Nat.sub_self]
        show (48 : UInt8) ≠ 49
        decide
      · dsimp only at h5; omega
end Go.Proofs.YtddkalfffhkkkaaDoor
namespace Go.Proofs.YtddkalfffhkkkaaDoor
open Go.RowKit Vc
variable {w w0 : World}
structure Tidy (j : Js) : Prop where
  ok : j.Ok
  ch : Ch j.s 0 0 j.l j.k
  st : Stop j.s j.k
theorem append_ofs {j : Js} {t : Txt} (ht : t.length ≤ 100000) (hf : j.k + cnt t.length < j.s.n) :
    (j.append t).1 = (runW j.s (wrs j.s j.k j.l.length t)).1 ∧ (j.append t).2.s = (runW j.s (wrs j.s j.k j.l.length t)).2 ∧ ((runW j.s (wrs j.s j.k j.l.length t)).1 = 0 → (j.append t).2.l = j.l ++ [t] ∧ (j.append t).2.k = j.k + 1 + cnt t.length) := by
  rw [append_run ht hf (x := (runW j.s (wrs j.s j.k j.l.length t)).1) (s' := (runW j.s (wrs j.s j.k j.l.length t)).2) rfl]
  split
  · rename_i h
    exact ⟨h.symm, rfl, fun _ => ⟨rfl, rfl⟩⟩
  · rename_i h
    exact ⟨rfl, rfl, fun e => absurd e h⟩
theorem wrs_in {s : St} {k n : Nat} {t : Txt} (hn : n ≤ 5000) (ht : t.length ≤ 100000) (hf : k + cnt t.length < s.n) : InR s.n (wrs s k n t) := by
  intro p hp
  rw [wrs_split] at hp
  rcases List.mem_append.1 hp with hp | hp
  · exact wrs0_in hn ht hf p hp
  · rw [List.mem_singleton.1 hp]
    exact ⟨by dsimp only; omega, hd_len hn ht⟩
theorem Js.Ok.len {j : Js} (ok : j.Ok) : j.l.length ≤ 5000 := by have := ok.l; have := ok.k; have := ok.s.n2; omega
theorem Tidy.append {j : Js} (h : Tidy j) (he : j.s.e = true) {t : Txt} (ht : t.length ≤ 100000) (hf : j.k + cnt t.length < j.s.n) :
    (j.append t).1 = 0 ∧ Tidy (j.append t).2 ∧ (j.append t).2.l = j.l ++ [t] ∧ (j.append t).2.k = j.k + 1 + cnt t.length ∧ (j.append t).2.s.n = j.s.n ∧ (j.append t).2.s.e = true := by
  obtain ⟨a1, a2, a3⟩ := append_ofs ht hf
  obtain ⟨e1, e2⟩ := runW_endless _ (wrs_in h.ok.len ht hf) he
  obtain ⟨c1, c2, _⟩ := append_crash h.ok.len ht hf h.ch
  obtain ⟨l1, l2⟩ := a3 e1
  obtain ⟨g1, g2⟩ := c2 e1
  refine ⟨a1.trans e1, ⟨(Js.append_ok h.ok t).1, ?_, ?_⟩, l1, l2, ?_, ?_⟩
  · rw [a2, l1, l2]; exact g1
  · rw [a2, l2]; exact g2
  · rw [a2]; exact c1
  · rw [a2]; exact e2
theorem restart_ok {s : St} (h : s.Ok) : s.restart.Ok := ⟨h.n1, h.n2, h.p0, h.p1, Int.le_refl _, (by decide : (0 : Int) < 18446744073709551616)⟩
theorem lim_ok {s : St} (h : s.Ok) {n m : Int} (hn : n < 9223372036854775808) (hm0 : 0 ≤ m) (hm1 : m < 18446744073709551616) : (s.limit n m).Ok :=
  ⟨h.n1, h.n2, by simp only [St.limit]; split <;> omega, by simp only [St.limit]; split <;> omega, hm0, hm1⟩
theorem Tidy.limit {j : Js} (h : Tidy j) {n m : Int} (hn : n < 9223372036854775808) (hm0 : 0 ≤ m) (hm1 : m < 18446744073709551616) : Tidy ⟨j.s.limit n m, j.l, j.k⟩ :=
  ⟨⟨lim_ok h.ok.s hn hm0 hm1, h.ok.k, h.ok.l⟩, Ch.far (s := j.s) (s' := j.s.limit n m) rfl h.ch fun _ _ => rfl, h.st⟩
theorem Tidy.torn {j : Js} (h : Tidy j) {t : Txt} (ht : t.length ≤ 100000) (hf : j.k + cnt t.length < j.s.n) :
    ∃ (l' : List Txt) (k' : Nat), (l' = j.l ∨ l' = j.l ++ [t]) ∧ ((j.append t).1 = 0 → l' = j.l ++ [t]) ∧ k' ≤ j.k + 1 + cnt t.length ∧ Js.opened (j.append t).2.s.restart = ⟨(j.append t).2.s.restart, l', k'⟩ ∧ Tidy ⟨(j.append t).2.s.restart, l', k'⟩ ∧ (j.append t).2.s.n = j.s.n := by
  obtain ⟨a1, a2, _⟩ := append_ofs ht hf
  obtain ⟨c1, c2, c3⟩ := append_crash h.ok.len ht hf h.ch
  have hok := (Js.append_ok h.ok t).1.s
  have fin : ∀ (l' : List Txt) (k' : Nat), k' ≤ j.s.n → Ch (runW j.s (wrs j.s j.k j.l.length t)).2 0 0 l' k' → Stop (runW j.s (wrs j.s j.k j.l.length t)).2 k' → Js.opened (j.append t).2.s.restart = ⟨(j.append t).2.s.restart, l', k'⟩ ∧ Tidy ⟨(j.append t).2.s.restart, l', k'⟩ := by
    intro l' k' hk hc hs
    rw [← a2] at hc hs
    have hn : (j.append t).2.s.n = j.s.n := by rw [a2]; exact c1
    have hc' : Ch (j.append t).2.s.restart 0 0 l' k' := Ch.far (s := (j.append t).2.s) (s' := (j.append t).2.s.restart) rfl hc fun _ _ => rfl
    have hs' : Stop (j.append t).2.s.restart k' := hs
    have hle := hc.le
    exact ⟨opened_ch hc' (hs'.none _) (by show k' ≤ (j.append t).2.s.n; omega), ⟨restart_ok hok, by show k' ≤ (j.append t).2.s.n; omega, by dsimp only; omega⟩, hc', hs'⟩
  have hn : (j.append t).2.s.n = j.s.n := by rw [a2]; exact c1
  by_cases e : (runW j.s (wrs j.s j.k j.l.length t)).1 = 0
  · obtain ⟨g1, g2⟩ := c2 e
    obtain ⟨f1, f2⟩ := fin _ _ (by omega) g1 g2
    exact ⟨_, _, .inr rfl, fun _ => rfl, Nat.le_refl _, f1, f2, hn⟩
  · have hz : j.s.F (j.k * 64) ≠ 49 := h.st.elim (fun h => by omega) id
    rcases c3 hz with ⟨g1, g2⟩ | ⟨g1, g2⟩
    · obtain ⟨f1, f2⟩ := fin _ _ (by omega) g1 g2
      exact ⟨_, _, .inl rfl, fun h => absurd (a1.symm.trans h) e, by omega, f1, f2, hn⟩
    · obtain ⟨f1, f2⟩ := fin _ _ (by omega) g1 g2
      exact ⟨_, _, .inr rfl, fun _ => rfl, Nat.le_refl _, f1, f2, hn⟩
theorem Jr.turn {gj g b : Nat} {rp : Option Nat} {j : Js} (h : Jr w0 w gj g b rp j) {w' : World} (hm : Mod (fun i => i = g ∨ i = b) w w') {s' : St} (d : Dev w' g b s') : Jr w0 w' gj g b rp ⟨s', j.l, j.k⟩ := by
  obtain ⟨p, c, t1, t2, t3⟩ := h.top
  refine ⟨d, ⟨p, c, t1.mod hm ?_, t2.mod hm ?_, t3⟩, h.low⟩
  · rintro (e | e)
    · exact t1.ne h.dev.top (by decide) e
    · exact t1.ne h.dev.bytes (by decide) e
  · rintro k hk
    obtain ⟨cur, hc⟩ := t2.typed hk
    rintro (e | e)
    · exact hc.ne h.dev.top (by decide) e
    · exact hc.ne h.dev.bytes (by decide) e
theorem Jr.turned {gj g b : Nat} {rp : Option Nat} {j : Js} (h : Jr w0 w gj g b rp j) {w' : World} (h0 : Still w0 w) (hm : Mod (fun i => i = g ∨ i = b) w w') : Still w0 w' := h.stays h0 (hm.weaken fun _ hk => hk.elim .inl fun h => .inr (.inl h))
theorem cnt_small {n : Nat} (h : n ≤ 200) : cnt n ≤ 4 := by unfold cnt; omega
theorem pw_mod {n : Int} (h0 : 0 ≤ n) (h1 : n < 256) : Int.tmod (IntKind.i64.wrap n) 9 < 9223372036854775808 := by
  rw [wrap_i64 (by omega) (by omega)]
  have := Int.tmod_lt_of_pos n (show (0 : Int) < 9 by decide)
  omega
set_option maxHeartbeats 1000000 in
theorem JournalWhole_spec (he : Env w) {p : Option Addr} {L C : Nat} {ls : List Txt} (hl : StrsAt w p L ls) (last : Txt) (pw : Int) (p0 : 0 ≤ pw) (p1 : pw < 256) (mk : Int) (m0 : 0 ≤ mk) (m1 : mk < 18446744073709551616) (junk : Txt) :
    Calls Tryd.prog fn_law04_JournalWhole #[.slice p L C, .string (S last), .int .u8 pw, .int .u64 mk, .string (S junk)] w (fun e w' => e = .returned (.bool true) ∧ Still w w') := by
  refine law04_JournalWhole_calls _ _ _ _ _ _ _ _ _ ?_
  refine (awake4_spec he (Still.refl w)).mono ?_
  rintro _ w1 ⟨rfl, s1⟩
  refine .inl ⟨_, rfl, bsel_of (fun h => by cases h) (fun _ => ?_)⟩
  refine (device_New_spec (n := 40) (by decide) (by decide)).mono ?_
  rintro _ w2 ⟨g, b, rfl, m2, hg, hb, d2⟩
  have s2 : Still w1 w2 := m2
  have h02 := s1.trans s2
  have z1 := s1.size
  refine .inl ⟨_, _, rfl, bsel_of (fun h => by cases h) (fun _ => bsel_of (fun _ => bsel_of (fun _ => ⟨rfl, h02⟩) (fun h => by cases h)) (fun hlast => ?_))⟩
  have hlast : last.length ≤ 200 := by have := of_decide_eq_false hlast; omega
  refine ⟨fun x w3 => ∃ (k : Nat) (s : St), x = (k : Int) ∧ k ≤ 40 ∧ s.n = 40 ∧ s.e = true ∧ s.Ok ∧ s.F 0 = 0 ∧ Dev w3 g b s ∧ Still w w3, fun x _ => 40 - x.toNat, ⟨0, _, rfl, by decide, rfl, rfl, new_ok (by decide) (by decide), rfl, d2, h02⟩, ?_⟩
  rintro _ _ w3 ⟨k, s, rfl, hk40, sn, se, sok, sF, d3, h03⟩
  refine ⟨fun x w4 => (x = true → k < 40 ∧ junk.length ≤ 64) ∧ Dev w4 g b s ∧ Still w w4, ?_, ?_⟩
  · refine bsel_of (fun hx => ⟨fun h => ⟨by have := of_decide_eq_true hx; omega, by have := of_decide_eq_true h; omega⟩, d3, h03⟩) (fun _ => ⟨fun h => (by cases h), d3, h03⟩)
  rintro x _ w4 ⟨hx, d4, h04⟩
  refine bsel_of (fun hxt => ?_) (fun _ => ?_)
  · obtain ⟨hk, hj⟩ := hx hxt
    have again : ∀ {w' : World} {s' : St}, s'.n = 40 → s'.e = true → s'.Ok → s'.F 0 = 0 → Dev w' g b s' → Still w w' → (∃ (k' : Nat) (s : St), IntKind.i64.wrap ((k : Int) + 1) = (k' : Int) ∧ k' ≤ 40 ∧ s.n = 40 ∧ s.e = true ∧ s.Ok ∧ s.F 0 = 0 ∧ Dev w' g b s ∧ Still w w') ∧ 40 - (IntKind.i64.wrap ((k : Int) + 1)).toNat < 40 - (k : Int).toNat := by
      intro w' s' h1 h2 h3 h4 h5 h6
      rw [wrap_i64 (by omega) (by omega)]
      exact ⟨⟨k + 1, s', by omega, by omega, h1, h2, h3, h4, h5, h6⟩, by omega⟩
    refine bsel_of (fun hk0 => ?_) (fun _ => again sn se sok sF d4 h04)
    have hk0 : 0 < k := by have := of_decide_eq_true hk0; omega
    refine (device_Write_spec d4 sok (k : Int) junk).mono ?_
    rintro _ w5 ⟨rfl, m5, d5⟩
    have e5 := write_endless se (k := k) (by omega) hj
    obtain ⟨g1, g2⟩ := write_ok sok (k : Int) junk
    rw [e5] at d5 g1 g2
    refine .inl ⟨_, rfl, again (g2.trans sn) se g1 ?_ d5 (Mod.trans h04 m5 (fun _ h => h) (fun i hi hk => by rcases hk with rfl | rfl <;> omega))⟩
    show (if k * 64 ≤ 0 ∧ 0 < k * 64 + 64 then _ else s.F 0) = 0
    rw [if_neg (by omega)]
    exact sF
  clear hx
  refine (jopen_spec he h04 d4 sok (by omega) (by omega)).mono ?_
  rintro _ w6 ⟨gj, rp, rfl, s6, hgj, hrp, J6⟩
  have hst0 : Stop s 0 := .inr (by rw [Nat.zero_mul, sF]; decide)
  rw [opened_ch (l := []) (k := 0) rfl (hst0.none _) (Nat.zero_le _)] at J6
  have T6 : Tidy ⟨s, [], 0⟩ := ⟨⟨sok, Nat.zero_le _, Nat.le_refl _⟩, rfl, hst0⟩
  refine .inl ⟨_, rfl, bsel_of (fun h => by cases h) (fun _ => ?_)⟩
  refine ⟨fun x w7 => ∃ (k : Nat) (j : Js) (rp : Option Nat), x = (k : Int) ∧ k ≤ 5 ∧ j.k ≤ 5 * k ∧ j.s.n = 40 ∧ j.s.e = true ∧ Tidy j ∧ Jr w w7 gj g b rp j ∧ Still w w7, fun x _ => 5 - x.toNat, ⟨0, _, rp, rfl, by decide, Nat.le_refl _, sn, se, T6, J6, h04.trans s6⟩, ?_⟩
  rintro _ _ w7 ⟨k, j, rp, rfl, hk5, hjk, jn, je, T7, J7, h07⟩
  refine ⟨fun x w8 => (x = true → k < L ∧ k < 5) ∧ Jr w w8 gj g b rp j ∧ Still w w8, ?_, ?_⟩
  · refine bsel_of (fun hx => ⟨fun h => ⟨by have := of_decide_eq_true hx; omega, by have := of_decide_eq_true h; omega⟩, J7, h07⟩) (fun _ => ⟨fun h => (by cases h), J7, h07⟩)
  rintro x _ w8 ⟨hx, J8, h08⟩
  refine bsel_of (fun hxt => ?_) (fun _ => ?_)
  · obtain ⟨hkL, hk⟩ := hx hxt
    obtain ⟨a, rfl, hc⟩ := hl.get hkL
    have ec : Int.toNat (k : Int) * 1 = k := by rw [Int.toNat_natCast]; omega
    refine ⟨by omega, by omega, _, by rw [ec]; exact h08.cell hc, bsel_of (fun _ => ⟨rfl, h08⟩) (fun h2 => ⟨by omega, by omega, _, by rw [ec]; exact h08.cell hc, ?_⟩)⟩
    have h200 : (ls[k]'(by have := hl.1; omega)).length ≤ 200 := by have := of_decide_eq_false h2; omega
    generalize ls[k]'(by have := hl.1; omega) = t at h200
    have hct := cnt_small h200
    refine (jappend_spec he h08 J8 T7.ok t).mono ?_
    rintro _ w9 ⟨rfl, rp', J9, m9, n9⟩
    obtain ⟨_, q2, _, q4, q5, q6⟩ := T7.append je (t := t) (by omega) (by omega)
    refine .inl ⟨_, rfl, ?_⟩
    rw [wrap_i64 (by omega) (by omega)]
    exact ⟨⟨k + 1, _, rp', by omega, by omega, by omega, q5.trans jn, q6, q2, J9, J8.stays h08 m9⟩, by dsimp only; omega⟩
  clear hx
  refine (jrecords_spec J8 T7.ok.len).mono ?_
  rintro _ w10 ⟨q, D, rfl, o10, s10⟩
  refine .inl ⟨_, _, _, rfl, by decide, (device_Limit_spec (J8.still s10).dev _ _).mono ?_⟩
  rintro _ w11 ⟨rfl, m11, d11⟩
  have J11 := (J8.still s10).turn m11 d11
  have h011 := (J8.still s10).turned (h08.trans s10) m11
  have T11 := T7.limit (pw_mod p0 p1) m0 m1
  have hc4 := cnt_small hlast
  refine .inl ⟨rfl, (jappend_spec he h011 J11 T11.ok last).mono ?_⟩
  rintro _ w12 ⟨rfl, rp2, J12, m12, n12⟩
  have h012 := J11.stays h011 m12
  obtain ⟨l', k', e1, e2, e3, e4, T13, e6⟩ := T11.torn (t := last) (by omega) (by show j.k + _ < j.s.n; omega)
  refine .inl ⟨_, rfl, (device_Restart_spec J12.dev).mono ?_⟩
  rintro _ w13 ⟨rfl, m13, d13⟩
  have h013 := J12.turned h012 m13
  refine .inl ⟨rfl, (jopen_spec he h013 d13 T13.ok.s (by omega) (by omega)).mono ?_⟩
  rintro _ w14 ⟨gj2, rp3, rfl, s14, hgj2, hrp3, J14⟩
  rw [e4] at J14
  refine .inl ⟨_, rfl, bsel_of (fun h => by cases h) (fun _ => ?_)⟩
  refine (jrecords_spec J14 T13.ok.len).mono ?_
  rintro _ w15 ⟨q2, D2, rfl, o15, s15⟩
  have ft : ∀ i, Foot gj g b rp i → i < w8.heap.size := fun i hi => (J8.foot hi).2
  have o11 := o10.mod m11 fun i hi hk => by have := (o10.lt i hi).1; have := ft i (hk.elim .inl fun h => .inr (.inl h)); omega
  have o12 := o11.mod m12 fun i hi hk => by have := (o11.lt i hi).1; have := ft i hk; omega
  have o13 := o12.mod m13 fun i hi hk => by have := (o12.lt i hi).1; have := ft i (hk.elim .inl fun h => .inr (.inl h)); omega
  have wasA := ((StrsAt.of o13).still s14).still s15
  have nowA := StrsAt.of o15
  refine .inl ⟨_, _, _, rfl, ?_⟩
  have hjl := T7.ok.len
  refine appK_push (Owns.nil w15 w15.heap.size 9 1) (Nat.le_refl _) (strs j.l) (by rw [strs_length]; omega) (strs_one _) wasA.2 (by omega) (by omega) fun p' c' w16 o16 m16 _ => ?_
  have s16 : Still w15 w16 := m16.weaken fun i h => by cases h
  have z16 := s16.size
  refine push1b o16 (by omega) (cs := [.string (S last)]) rfl (by intro u hu; rw [List.mem_singleton.1 hu]; rfl) (by omega) (by omega) fun p2 c2 w18 o18 m18 _ => ?_
  have s18 : Still w15 w18 := s16.own o16 (Nat.le_refl _) m18
  have h018 := ((h013.trans s14).trans s15).trans s18
  have bothA : StrsAt w18 p2 (0 + j.l.length + 1) (j.l ++ [last]) := by
    refine StrsAt.of (B := w15.heap.size) (C := c2) ?_
    have : strs (j.l ++ [last]) = [] ++ strs j.l ++ [.string (S last)] := by simp [strs]
    rw [this]
    exact o18
  have hl' : l'.length ≤ 5000 := T13.ok.len
  refine bsel_of (fun hz => bsel_of (fun _ => ?_) (fun h => by cases h)) (fun hz => bsel_of (fun _ => ?_) (fun h => by cases h))
  · have e0 := e2 (of_decide_eq_true hz)
    refine (same_spec (nowA.still s18) bothA (Nat.lt_of_le_of_lt hl' (by decide))).mono ?_
    rintro _ w19 ⟨rfl, s19⟩
    refine .inl ⟨_, rfl, ?_, h018.trans s19⟩
    rw [decide_eq_true e0]
  · refine (same_spec (nowA.still s18) (wasA.still s18) (Nat.lt_of_le_of_lt hl' (by decide))).mono ?_
    rintro _ w20 ⟨rfl, s20⟩
    refine .inl ⟨_, rfl, bsel_of (fun _ => ⟨rfl, h018.trans s20⟩) (fun hne => ?_)⟩
    have hne := of_decide_eq_false hne
    refine (same_spec ((nowA.still s18).still s20) (bothA.still s20) (Nat.lt_of_le_of_lt hl' (by decide))).mono ?_
    rintro _ w21 ⟨rfl, s21⟩
    refine .inl ⟨_, rfl, ?_, (h018.trans s20).trans s21⟩
    rw [decide_eq_true (e1.resolve_left hne)]
end Go.Proofs.YtddkalfffhkkkaaDoor
