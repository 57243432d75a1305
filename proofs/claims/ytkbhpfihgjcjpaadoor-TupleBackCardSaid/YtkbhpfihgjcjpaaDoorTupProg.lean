/- Tuples: what the program computes. Conditions: the library's tables and errors lie as its text lays them (Env). -/
import Derived.Test.YtkbhpfihgjcjpaaDoorTup
import Derived.Test.YtkbhpfihgjcjpaaDoorConv2
import Derived.Test.YtkbhpfihgjcjpaaDoorBuild
namespace Go.Proofs.YtkbhpfihgjcjpaaDoor
open Go.RowKit Vc
variable {w : World}
theorem nd {p : Prop} [Decidable p] (h : (!decide p) = false) : p := by simpa using h

theorem number_spec (he : Env w) (s : Txt) (hs : s.length ≤ 140737488355328) :
    Calls Tryd.prog fn_tuple_Number #[.string (S s)] w (fun e w' => (∃ (m : Int) (ok : Bool), e = .returned (.tuple #[.int .i64 m, .bool ok]) ∧ (match numR s with
      | some n => m = (n : Int) ∧ ok = true
      | none => ok = false)) ∧ Still w w') := by
  refine tuple_Number_calls _ _ _ ?_
  refine (atoi_spec he s hs).mono ?_
  rintro _ w1 ⟨⟨x, y, rfl, hy, hr⟩, hs1⟩
  cases hp : parseI 10 s with
  | bad k =>
    rw [hp] at hr
    obtain ⟨⟨m, rfl, hm⟩, t, v, rfl⟩ := hr
    refine .inl ⟨_, _, hy, rfl, ?_⟩
    have hn : numR s = none := by
      cases hn : numR s with
      | none => rfl
      | some n => rw [parseI_dec hn] at hp; cases hp
    rw [hn]
    exact ⟨⟨_, _, rfl, rfl⟩, hs1⟩
  | ok n =>
    rw [hp] at hr
    obtain ⟨rfl, rfl⟩ := hr
    have hrg := parseI_range hp
    have no : (∀ k, numR s = some k → False) → (∃ (m : Int) (ok : Bool), (Ending.returned (.tuple #[.int .i64 n, .bool false])) = .returned (.tuple #[.int .i64 m, .bool ok]) ∧ (match numR s with
      | some k => m = (k : Int) ∧ ok = true
      | none => ok = false)) ∧ Still w w1 := by
      intro h
      cases hn : numR s with
      | none => exact ⟨⟨_, _, rfl, rfl⟩, hs1⟩
      | some k => exact (h k hn).elim
    refine .inl ⟨_, _, rfl, rfl, ?_⟩
    refine bsel_of (fun h0 => ?_) (fun h0 => ?_)
    rotate_left
    · refine no fun k hk => ?_
      have hpk := parseI_dec hk
      rw [hp] at hpk
      injection hpk with hpk
      have := of_decide_eq_false h0
      omega
    have h0 : 0 ≤ n := of_decide_eq_true h0
    obtain ⟨u, rfl⟩ : ∃ u : Nat, n = (u : Int) := ⟨n.toNat, by omega⟩
    refine bsel_of (fun h9 => ?_) (fun h9 => ?_)
    rotate_left
    · refine no fun k hk => ?_
      have := (numR_some hk).2
      have := of_decide_eq_false h9
      omega
    have h9 : s.length ≤ 9 := by have := of_decide_eq_true h9; omega
    refine (itoa_spec (he.still hs1) (u : Int) hrg.1 hrg.2).mono ?_
    rintro _ w2 ⟨rfl, hs2⟩
    refine .inl ⟨_, rfl, ?_⟩
    rw [Lib.itoa_nonneg]
    cases hn : numR s with
    | some k =>
      have hpk := parseI_dec hn
      rw [hp] at hpk
      injection hpk with hpk
      obtain rfl : u = k := by omega
      exact ⟨⟨_, _, rfl, rfl, decide_eq_true (numR_some hn).1⟩, hs1.trans hs2⟩
    | none =>
      refine ⟨⟨_, _, rfl, decide_eq_false fun e => ?_⟩, hs1.trans hs2⟩
      have e : dec u = s := e
      have h := numR_dec (n := u) (by rw [e]; exact h9)
      rw [e, hn] at h
      cases h
theorem cut_spec (s : Txt) (hs : s.length ≤ 140737488355328) :
    Calls Tryd.prog fn_strings_Cut #[.string (S s), .string (S [58])] w (fun e w' => e = .returned (.tuple #[.string (S (s.take (colon s))), .string (S (s.drop (colon s + 1))), .bool (decide (colon s < s.length))]) ∧ Still w w') := by
  refine strings_Cut_calls _ _ _ _ ?_
  have h : Calls Tryd.prog fn_internal_stringslite_Cut #[.string (S s), .string (S [58])] w (fun e w' => e = .returned (.tuple #[.string (S (s.take (colon s))), .string (S (s.drop (colon s + 1))), .bool (decide (colon s < s.length))]) ∧ Still w w') := by
    refine internal_stringslite_Cut_calls _ _ _ _ ?_
    refine (Tryd.stringslite_Index_one (S s) 58 w).mono ?_
    rintro _ w1 ⟨rfl, rfl⟩
    have e : Lib.indexByte (S s).data.toList 58 = if colon s < s.length then (colon s : Int) else -1 := index_colon s
    rw [e]
    have hcl := colon_le s
    by_cases hc : colon s < s.length
    · rw [if_pos hc, decide_eq_true hc]
      have e1 : IntKind.i64.wrap ((colon s : Int) + (([58] : List UInt8).length : Int)) = ((colon s + 1 : Nat) : Int) := by
        simp only [List.length_cons, List.length_nil]
        rw [wrap_i64 (by omega) (by omega)]
        omega
      refine .inl ⟨_, rfl, bsel_of (fun _ => ?_) (fun h => by have := of_decide_eq_false h; omega)⟩
      rw [e1]
      exact ⟨by omega, by omega, by omega, by omega, rfl, (Still.refl _).toDrew⟩
    · rw [if_neg hc, decide_eq_false hc]
      refine .inl ⟨_, rfl, bsel_of (fun h => absurd h (by decide)) (fun _ => ⟨?_, Still.refl _⟩)⟩
      rw [List.take_of_length_le (by omega), List.drop_of_length_le (by omega)]
  refine h.mono ?_
  rintro _ w1 ⟨rfl, hs1⟩
  exact .inl ⟨_, _, _, rfl, rfl, hs1⟩
/-- What a decoding hands back. -/
def DecAs (s : Txt) (w : World) (p : Option Addr) (n : Nat) (k : Int) : Prop := ∃ l, StrsAt w p n l ∧ ((k = 0 ∧ decode s = some l) ∨ (k = 20 ∧ n = 0 ∧ decode s = none))
theorem DecAs.still {s : Txt} {w' : World} {p : Option Addr} {n : Nat} {k : Int} (h : DecAs s w p n k) (hm : Still w w') : DecAs s w' p n k := by
  obtain ⟨l, h1, h2⟩ := h
  exact ⟨l, h1.still hm, h2⟩
theorem DecAs.bad {s : Txt} (h : decode s = none) (w : World) : DecAs s w none 0 20 := ⟨[], StrsAt.nil w, .inr ⟨rfl, rfl, h⟩⟩
theorem decode_spec (he : Env w) (s : Txt) (hs : s.length ≤ 1000000) :
    Calls Tryd.prog fn_tuple_Decode #[.string (S s)] w (fun e w' => (∃ p n C k, e = .returned (.tuple #[.slice p n C, .int .i64 k]) ∧ DecAs s w' p n k) ∧ Still w w') := by
  refine tuple_Decode_calls _ _ _ ?_
  refine ⟨fun s1 l lL lC w1 => ∃ (acc : List Txt) (f : Nat), lL = acc.length ∧ decode s = decT f s1 acc ∧ s1.length < f ∧ acc.length + s1.length ≤ s.length ∧ Owns w1 w.heap.size 9 1 (.slice l lL lC) lL (strs acc) ∧ Still w w1, fun s1 _ _ _ _ => s1.length,
    ⟨[], s.length + 1, rfl, rfl, Nat.lt_succ_self _, by simp, Owns.nil _ _ _ _, Still.refl _⟩, ?_⟩
  rintro s1 l _ lC _ w1 ⟨acc, f, rfl, hd, hf, hal, ho, hst⟩
  cases f with
  | zero => omega
  | succ f =>
  simp only [decT] at hd
  refine bsel_of (fun h => ?_) (fun h => ?_)
  · have hne : s1 ≠ [] := by intro e; rw [decide_eq_true e] at h; cases h
    rw [if_neg hne] at hd
    refine (cut_spec s1 (by omega)).mono ?_
    rintro _ w2 ⟨rfl, hs2⟩
    refine .inl ⟨_, _, _, rfl, ?_⟩
    have hcl := colon_le s1
    refine (number_spec (he.still (hst.trans hs2)) _ (by rw [List.length_take]; omega)).mono ?_
    rintro _ w3 ⟨⟨m, ok, rfl, hm⟩, hs3⟩
    refine .inl ⟨_, _, rfl, ?_⟩
    have hst3 := (hst.trans hs2).trans hs3
    have fail : step s1 = none → (∃ p n C k, (Ending.returned (.tuple #[.slice none 0 0, .int .i64 20])) = .returned (.tuple #[.slice p n C, .int .i64 k]) ∧ DecAs s w3 p n k) ∧ Still w w3 := by
      intro h
      rw [h] at hd
      exact ⟨⟨_, _, _, _, rfl, DecAs.bad hd w3⟩, hst3⟩
    unfold step at fail
    refine bsel_of (fun hq => ?_) (fun hq => ?_)
    · have hq : ¬ colon s1 < s1.length := by intro e; rw [decide_eq_true e] at hq; cases hq
      refine fail ?_
      split
      · rfl
      · rw [if_neg]
        intro e
        have := (List.getElem?_eq_some_iff.1 e).1
        omega
    have hq : colon s1 < s1.length := by
      by_cases e : colon s1 < s1.length
      · exact e
      · rw [decide_eq_false e] at hq; cases hq
    refine bsel_of (fun hk => ?_) (fun hk => ?_)
    · obtain rfl : ok = false := by cases ok with
        | true => cases hk
        | false => rfl
      refine fail ?_
      cases hn : numR (s1.take (colon s1)) with
      | none => rfl
      | some n => rw [hn] at hm; cases hm.2
    obtain rfl : ok = true := by cases ok with
      | true => rfl
      | false => cases hk
    cases hn : numR (s1.take (colon s1)) with
    | none => rw [hn] at hm; cases hm
    | some n =>
    rw [hn] at hm fail
    dsimp only at fail
    obtain ⟨rfl, _⟩ := hm
    have hdl : (s1.drop (colon s1 + 1)).length = s1.length - (colon s1 + 1) := List.length_drop
    refine bsel_of (fun h1 => ?_) (fun h1 => ?_)
    · have h1 := of_decide_eq_true h1
      refine fail (if_neg fun e => ?_)
      have := (List.getElem?_eq_some_iff.1 e).1
      omega
    have h1 := of_decide_eq_false h1
    have h1 : colon s1 + 1 + n < s1.length := by omega
    have hb : (s1.drop (colon s1 + 1))[n]? = some s1[colon s1 + 1 + n] := by rw [List.getElem?_drop]; exact getD_some h1
    refine ⟨by omega, _, by rw [Int.toNat_natCast]; exact hb, bsel_of (fun h2 => ?_) (fun h2 => ?_)⟩
    · refine fail (if_neg fun e => ?_)
      rw [getD_some h1] at e
      rw [Option.some.inj e] at h2
      exact absurd h2 (by decide)
    have h2 : s1[colon s1 + 1 + n]? = some 44 := by
      rw [getD_some h1]
      congr 1
      exact (byte_eq (b := 44)).1 (nd h2)
    have hstep : step s1 = some ((s1.drop (colon s1 + 1)).take n, s1.drop (colon s1 + 2 + n)) := by
      unfold step
      rw [hn]
      dsimp only
      rw [if_pos h2]
    rw [hstep] at hd
    dsimp only at hd
    have e1 : IntKind.i64.wrap ((n : Int) + 1) = ((n + 1 : Nat) : Int) := by rw [wrap_i64 (by omega) (by omega)]; omega
    have hf2 := step_form hstep
    refine ⟨by omega, by omega, push1 (ho.still (hs2.trans hs3)) (by have := hst3.size; omega) rfl (fun u hu => by simp at hu; subst hu; rfl) (by omega) (by omega) fun p' c' w4 ho4 hm4 => ?_⟩
    rw [e1]
    refine ⟨by omega, by omega, ?_⟩
    rw [Int.toNat_natCast] at ho4
    rw [Int.toNat_natCast, List.drop_drop, show colon s1 + 1 + (n + 1) = colon s1 + 2 + n by omega]
    refine ⟨⟨acc ++ [(s1.drop (colon s1 + 1)).take n], f, by simp, hd, by omega, by simp only [List.length_append, List.length_cons, List.length_nil]; omega, ?_, ?_⟩, hf2.2.1⟩
    · rw [strs_append]
      exact ho4
    · exact Still.own hst3 (ho.still (hs2.trans hs3)) (Nat.le_refl _) hm4
  · have hne : s1 = [] := by
      by_cases e : s1 = []
      · exact e
      · rw [decide_eq_false e] at h; cases h
    rw [if_pos hne] at hd
    exact ⟨⟨_, _, _, _, rfl, acc, StrsAt.of ho, .inl ⟨rfl, hd⟩⟩, hst⟩
theorem dec_len_le (n : Nat) : (dec n).length ≤ n + 1 := by
  induction n using Nat.strongRecOn with
  | _ n ih =>
  by_cases h : n < 10
  · rw [dec_small h]
    simp
  · rw [dec_step h]
    have := ih (n / 10) (by omega)
    simp only [List.length_append, List.length_cons, List.length_nil]
    omega
theorem digits_spec (n : Nat) (hn : n < 1000000000000) : Calls Tryd.prog fn_ref02_Digits #[.int .i64 (n : Int)] w (fun e w' => e = .returned (.string (S (dec n))) ∧ Still w w') := by
  induction n using Nat.strongRecOn generalizing w with
  | _ n ih =>
  refine ref02_Digits_calls _ _ _ ?_
  refine ⟨by decide, allocK fun w1 hr1 hs1 hz1 => ?_⟩
  have ed : Int.tmod (n : Int) 10 = ((n % 10 : Nat) : Int) := tmod_nat n 10
  have eq : Int.tdiv (n : Int) 10 = ((n / 10 : Nat) : Int) := (Int.ofNat_tdiv n 10).symm
  have ew : IntKind.u8.wrap (IntKind.i64.wrap (48 + ((n % 10 : Nat) : Int))) = ((UInt8.ofNat (48 + n % 10)).toNat : Int) := by
    rw [wrap_i64 (by omega) (by omega), wrap_u8 (by omega) (by omega)]
    rw [UInt8.toNat_ofNat']
    omega
  rw [ed, ew] at hr1
  refine ⟨[UInt8.ofNat (48 + n % 10)], Row.bytes (l := [UInt8.ofNat (48 + n % 10)]) hr1 rfl, bsel_of (fun h => ?_) (fun h => ?_)⟩
  · have h : n < 10 := by have := of_decide_eq_true h; omega
    rw [dec_small h, Nat.mod_eq_of_lt h]
    exact ⟨rfl, hs1⟩
  · have h : ¬ n < 10 := by have := of_decide_eq_false h; omega
    rw [eq, wrap_i64 (by omega) (by omega)]
    refine ⟨by decide, (ih (n / 10) (by omega) (by omega)).mono ?_⟩
    rintro _ w2 ⟨rfl, hs2⟩
    have hl := dec_len_le (n / 10)
    refine .inl ⟨_, rfl, by simp only [List.length_cons, List.length_nil]; omega, ?_, hs1.trans hs2⟩
    rw [dec_step h]
end Go.Proofs.YtkbhpfihgjcjpaaDoor
