/- Numbers out of texts, as strconv reads them, and back. Plain law; no program is named. Conditions: none. -/
import Derived.Test.YtgincpkggnndeaaGreatDoorStrs
import Derived.Lib.ItoaMem
namespace Go.Proofs.YtgincpkggnndeaaGreatDoor
open Go.RowKit Vc

/-- What a reading of a number comes to: a number; or an error: 1 out of range, 2 no number. -/
inductive Pr (α : Type) where
  | ok (n : α)
  | bad (k : Nat)
def lowN (c : UInt8) : Nat := (c ||| 32).toNat
/-- What a sign is worth. -/
def digV (c : UInt8) : Option Nat := if 48 ≤ c.toNat ∧ c.toNat ≤ 57 then some (c.toNat - 48) else if 97 ≤ lowN c ∧ lowN c ≤ 122 then some (lowN c - 97 + 10) else none
def scanU (b : Nat) : Txt → Nat → Pr Nat
  | [], n => .ok n
  | c :: s, n => match digV c with
    | none => .bad 2
    | some d => if b ≤ d then .bad 2 else if 18446744073709551615 < n * b + d then .bad 1 else scanU b s (n * b + d)
def parseU (b : Nat) (s : Txt) : Pr Nat := if s = [] then .bad 2 else scanU b s 0
def signed (neg : Bool) (r : Pr Nat) : Pr Int := match r with
  | .bad k => .bad k
  | .ok n => if neg = true then (if 9223372036854775808 < n then .bad 1 else .ok (-(n : Int))) else if 9223372036854775808 ≤ n then .bad 1 else .ok (n : Int)
def parseI (b : Nat) (s : Txt) : Pr Int := match s with
  | [] => .bad 2
  | c :: t => if c = 43 then signed false (parseU b t) else if c = 45 then signed true (parseU b t) else signed false (parseU b (c :: t))
theorem scanU_bad {b : Nat} : ∀ {s : Txt} {n k : Nat}, scanU b s n = .bad k → k = 1 ∨ k = 2
  | [], n, k, h => by cases h
  | c :: s, n, k, h => by
    simp only [scanU] at h
    split at h
    · injection h with h; exact .inr h.symm
    · split at h
      · injection h with h; exact .inr h.symm
      · split at h
        · injection h with h; exact .inl h.symm
        · exact scanU_bad h
theorem scanU_le {b : Nat} : ∀ {s : Txt} {n m : Nat}, n ≤ 18446744073709551615 → scanU b s n = .ok m → m ≤ 18446744073709551615
  | [], n, m, hn, h => by injection h with h; omega
  | c :: s, n, m, hn, h => by
    simp only [scanU] at h
    split at h
    · cases h
    · split at h
      · cases h
      · split at h
        · cases h
        · exact scanU_le (by omega) h
theorem parseU_bad {b : Nat} {s : Txt} {k : Nat} (h : parseU b s = .bad k) : k = 1 ∨ k = 2 := by
  unfold parseU at h
  split at h
  · injection h with h; exact .inr h.symm
  · exact scanU_bad h
theorem parseU_le {b : Nat} {s : Txt} {m : Nat} (h : parseU b s = .ok m) : m ≤ 18446744073709551615 := by
  unfold parseU at h
  split at h
  · cases h
  · exact scanU_le (by decide) h
theorem signed_bad {neg : Bool} {r : Pr Nat} {k : Nat} (hr : ∀ j, r = .bad j → j = 1 ∨ j = 2) (h : signed neg r = .bad k) : k = 1 ∨ k = 2 := by
  unfold signed at h
  split at h
  · injection h with h
    subst h
    exact hr _ rfl
  · split at h
    · split at h
      · injection h with h; exact .inl h.symm
      · cases h
    · split at h
      · injection h with h; exact .inl h.symm
      · cases h
theorem parseI_bad {b : Nat} {s : Txt} {k : Nat} (h : parseI b s = .bad k) : k = 1 ∨ k = 2 := by
  unfold parseI at h
  split at h
  · injection h with h; exact .inr h.symm
  · split at h
    · exact signed_bad (fun _ => parseU_bad) h
    · split at h <;> exact signed_bad (fun _ => parseU_bad) h
theorem signed_range {neg : Bool} {r : Pr Nat} {n : Int} (h : signed neg r = .ok n) : -9223372036854775808 ≤ n ∧ n < 9223372036854775808 := by
  unfold signed at h
  split at h
  · cases h
  · split at h
    · split at h
      · cases h
      · injection h with h; omega
    · split at h
      · cases h
      · injection h with h; omega
theorem parseI_range {b : Nat} {s : Txt} {n : Int} (h : parseI b s = .ok n) : -9223372036854775808 ≤ n ∧ n < 9223372036854775808 := by
  unfold parseI at h
  split at h
  · cases h
  · split at h
    · exact signed_range h
    · split at h <;> exact signed_range h
/-! ### Digits -/
def isDig (c : UInt8) : Bool := decide (48 ≤ c.toNat) && decide (c.toNat ≤ 57)
theorem digV_dig {c : UInt8} (h : isDig c = true) : digV c = some (c.toNat - 48) := by
  unfold isDig at h
  simp only [Bool.and_eq_true, decide_eq_true_eq] at h
  unfold digV
  rw [if_pos h]
/-- What digits to the base 10 are worth. -/
def valD (s : Txt) (n : Nat) : Nat := s.foldl (fun n c => n * 10 + (c.toNat - 48)) n
theorem valD_snoc (s : Txt) (c : UInt8) (n : Nat) : valD (s ++ [c]) n = valD s n * 10 + (c.toNat - 48) := by simp [valD]
theorem valD_bound : ∀ {s : Txt}, s.all isDig = true → ∀ n, valD s n < (n + 1) * 10 ^ s.length
  | [], _, n => by simp [valD]
  | c :: s, h, n => by
    simp only [List.all_cons, Bool.and_eq_true] at h
    have ih := valD_bound h.2 (n * 10 + (c.toNat - 48))
    have hd := h.1
    unfold isDig at hd
    simp only [Bool.and_eq_true, decide_eq_true_eq] at hd
    have h2 : (n * 10 + (c.toNat - 48) + 1) * 10 ^ s.length ≤ ((n + 1) * 10) * 10 ^ s.length := Nat.mul_le_mul_right _ (by omega)
    have e : (n + 1) * 10 ^ (c :: s).length = ((n + 1) * 10) * 10 ^ s.length := by rw [List.length_cons, Nat.pow_succ, Nat.mul_assoc, Nat.mul_comm 10]
    rw [e]
    exact Nat.lt_of_lt_of_le ih h2
theorem valD_ge : ∀ (s : Txt) (n : Nat), n ≤ valD s n
  | [], n => Nat.le_refl _
  | c :: s, n => by
    have := valD_ge s (n * 10 + (c.toNat - 48))
    show n ≤ valD s (n * 10 + (c.toNat - 48))
    omega
theorem scanU_digs : ∀ {s : Txt} {n : Nat}, s.all isDig = true → valD s n ≤ 18446744073709551615 → scanU 10 s n = .ok (valD s n)
  | [], n, _, _ => rfl
  | c :: s, n, h, hv => by
    simp only [List.all_cons, Bool.and_eq_true] at h
    have hd := h.1
    have hv' : valD s (n * 10 + (c.toNat - 48)) ≤ 18446744073709551615 := hv
    have hge := valD_ge s (n * 10 + (c.toNat - 48))
    simp only [scanU, digV_dig hd]
    unfold isDig at hd
    simp only [Bool.and_eq_true, decide_eq_true_eq] at hd
    rw [if_neg (by omega), if_neg (by omega)]
    exact scanU_digs h.2 hv'
/-! ### Numbers that are told -/
abbrev dec (n : Nat) : Txt := Lib.decDigits n
theorem dec_small {n : Nat} (h : n < 10) : dec n = [UInt8.ofNat (48 + n)] := Lib.decDigits_one h
theorem dec_step {n : Nat} (h : ¬ n < 10) : dec n = dec (n / 10) ++ [UInt8.ofNat (48 + n % 10)] := by
  conv => lhs; unfold dec; rw [Lib.decDigits]
  rw [dif_neg h]
theorem digit_of {d : Nat} (h : d < 10) : isDig (UInt8.ofNat (48 + d)) = true ∧ (UInt8.ofNat (48 + d)).toNat - 48 = d := by
  have e : (UInt8.ofNat (48 + d)).toNat = 48 + d := by
    rw [UInt8.toNat_ofNat']
    omega
  unfold isDig
  rw [e]
  constructor
  · simp; omega
  · omega
theorem dec_ne (n : Nat) : dec n ≠ [] := by
  rcases Nat.lt_or_ge n 10 with h | h
  · rw [dec_small h]; simp
  · rw [dec_step (by omega)]; simp
theorem dec_digs : ∀ n : Nat, (dec n).all isDig = true ∧ valD (dec n) 0 = n := by
  intro n
  induction n using Nat.strongRecOn with
  | _ n ih =>
    rcases Nat.lt_or_ge n 10 with h | h
    · rw [dec_small h]
      obtain ⟨h1, h2⟩ := digit_of h
      generalize UInt8.ofNat (48 + n) = x at *
      exact ⟨by simp [h1], by simp [valD, h2]⟩
    · rw [dec_step (by omega)]
      obtain ⟨i1, i2⟩ := ih (n / 10) (by omega)
      obtain ⟨h1, h2⟩ := digit_of (d := n % 10) (by omega)
      generalize UInt8.ofNat (48 + n % 10) = x at *
      refine ⟨by rw [List.all_append, i1]; simp [h1], ?_⟩
      rw [valD_snoc, i2, h2]
      omega
/-- The number of 1 to 9 digits, without noughts ahead of others. -/
def numR (s : Txt) : Option Nat := if s ≠ [] ∧ s.length ≤ 9 ∧ s.all isDig = true ∧ (s.head? = some 48 → s.length = 1) then some (valD s 0) else none
theorem snoc_form {α : Type} : ∀ {l : List α}, l ≠ [] → ∃ t x, l = t ++ [x]
  | [], h => absurd rfl h
  | [a], _ => ⟨[], a, rfl⟩
  | a :: b :: l, _ => by
    obtain ⟨t, x, h⟩ := snoc_form (l := b :: l) (by simp)
    exact ⟨a :: t, x, by rw [h]; rfl⟩
/-- Digits without noughts ahead are told as they stand. -/
theorem dec_val : ∀ (k : Nat) (s : Txt), s.length = k → s ≠ [] → s.all isDig = true → (s.head? = some 48 → s.length = 1) → dec (valD s 0) = s := by
  intro k
  induction k with
  | zero => intro s hl h; exact absurd (List.eq_nil_of_length_eq_zero hl) h
  | succ k ih =>
    intro s hl hne hd hz
    obtain ⟨t, x, rfl⟩ := snoc_form hne
    rw [List.all_append] at hd
    simp only [List.all_cons, List.all_nil, Bool.and_true, Bool.and_eq_true] at hd
    obtain ⟨ht, hx⟩ := hd
    have hx' := hx
    unfold isDig at hx'
    simp only [Bool.and_eq_true, decide_eq_true_eq] at hx'
    have ex : UInt8.ofNat (48 + (x.toNat - 48)) = x := by
      have : 48 + (x.toNat - 48) = x.toNat := by omega
      rw [this]
      simp
    rw [valD_snoc]
    rcases Decidable.em (t = []) with rfl | htn
    · simp only [valD, List.foldl_nil, Nat.zero_mul, Nat.zero_add, List.nil_append]
      rw [dec_small (by omega), ex]
    · have htl : t.length = k := by simpa using hl
      have hz' : t.head? = some 48 → t.length = 1 := by
        intro h0
        have h1 : (t ++ [x]).head? = some 48 := by
          cases t with
          | nil => exact absurd rfl htn
          | cons a t => simpa using h0
        have := hz h1
        have h2 : t.length ≠ 0 := fun e => htn (List.eq_nil_of_length_eq_zero e)
        simp only [List.length_append, List.length_cons, List.length_nil] at this
        omega
      have iht := ih t htl htn ht hz'
      have hpos : 0 < valD t 0 := by
        rcases Nat.eq_zero_or_pos (valD t 0) with e | e
        · rw [e, dec_small (by decide)] at iht
          have h1 : (t ++ [x]).head? = some 48 := by rw [← iht]; rfl
          have := hz h1
          rw [← iht] at this
          simp at this
        · exact e
      rw [dec_step (by omega)]
      have e1 : (valD t 0 * 10 + (x.toNat - 48)) / 10 = valD t 0 := by omega
      have e2 : (valD t 0 * 10 + (x.toNat - 48)) % 10 = x.toNat - 48 := by omega
      rw [e1, e2, iht, ex]
theorem numR_dec {n : Nat} (h : (dec n).length ≤ 9) : numR (dec n) = some n := by
  obtain ⟨h1, h2⟩ := dec_digs n
  have hz : (dec n).head? = some 48 → (dec n).length = 1 := by
    intro h0
    rcases Nat.lt_or_ge n 10 with h | h
    · rw [dec_small h]; rfl
    · exfalso
      have key : ∀ m : Nat, 10 ≤ m → (dec m).head? ≠ some 48 := by
        intro m
        induction m using Nat.strongRecOn with
        | _ m ih =>
          intro hm
          rw [dec_step (by omega)]
          rcases Nat.lt_or_ge (m / 10) 10 with h1 | h1
          · rw [dec_small h1]
            intro e
            have e : UInt8.ofNat (48 + m / 10) = 48 := by simpa using e
            have := congrArg UInt8.toNat e
            rw [UInt8.toNat_ofNat'] at this
            simp at this
            omega
          · have := ih (m / 10) (by omega) h1
            cases hd : dec (m / 10) with
            | nil => exact absurd hd (dec_ne _)
            | cons a t =>
              rw [hd] at this
              simpa using this
      exact key n h h0
  unfold numR
  rw [if_pos ⟨dec_ne n, h, h1, hz⟩, h2]
theorem numR_some {s : Txt} {n : Nat} (h : numR s = some n) : dec n = s ∧ s.length ≤ 9 := by
  unfold numR at h
  split at h
  · rename_i hc
    injection h with h
    subst h
    exact ⟨dec_val _ s rfl hc.1 hc.2.2.1 hc.2.2.2, hc.2.1⟩
  · cases h
theorem parseI_dec {s : Txt} {n : Nat} (h : numR s = some n) : parseI 10 s = .ok (n : Int) := by
  unfold numR at h
  split at h
  · rename_i hc
    injection h with h
    subst h
    have hb := valD_bound hc.2.2.1 0
    have hp : 10 ^ s.length ≤ 10 ^ 9 := Nat.pow_le_pow_right (by decide) hc.2.1
    have hv : valD s 0 < 1000000000 := by omega
    cases s with
    | nil => exact absurd rfl hc.1
    | cons c t =>
      have hd := hc.2.2.1
      simp only [List.all_cons, Bool.and_eq_true] at hd
      have hd1 := hd.1
      unfold isDig at hd1
      simp only [Bool.and_eq_true, decide_eq_true_eq] at hd1
      have n43 : c ≠ 43 := by rintro rfl; simp at hd1
      have n45 : c ≠ 45 := by rintro rfl; simp at hd1
      simp only [parseI, if_neg n43, if_neg n45]
      unfold parseU
      rw [if_neg (by simp), scanU_digs hc.2.2.1 (by omega)]
      simp only [signed, Bool.false_eq_true, if_false]
      rw [if_neg (by omega)]
  · cases h
theorem dec_len9 {n : Nat} (h : n < 1000000000) : (dec n).length ≤ 9 := by
  have key : ∀ (k m : Nat), m < 10 ^ (k + 1) → (dec m).length ≤ k + 1 := by
    intro k
    induction k with
    | zero => intro m hm; rw [dec_small (by omega)]; simp
    | succ k ih =>
      intro m hm
      rcases Nat.lt_or_ge m 10 with h1 | h1
      · rw [dec_small h1]; simp
      · rw [dec_step (by omega), List.length_append]
        have := ih (m / 10) (by rw [Nat.pow_succ] at hm; omega)
        simp only [List.length_cons, List.length_nil]
        omega
  exact key 8 n (by omega)
theorem numR_lt {s : Txt} {n : Nat} (h : numR s = some n) : n < 1000000000 := by
  unfold numR at h
  split at h
  · rename_i hc
    injection h with h
    subst h
    have hb := valD_bound hc.2.2.1 0
    have hp : 10 ^ s.length ≤ 10 ^ 9 := Nat.pow_le_pow_right (by decide) hc.2.1
    omega
  · cases h
end Go.Proofs.YtgincpkggnndeaaGreatDoor
