/- Names of variables and of parameters at a text's head: the program's, by runes, and the reference's, by bytes. Conditions: texts of fewer than a million bytes. -/
import Derived.Test.YtckcdbkggaoomaaDoorWd
import Derived.Test.YtckcdbkggaoomaaDoorStrs
import Derived.Test.YtckcdbkggaoomaaDoorShelf
import Derived.Laws.RangeString
import Derived.Shelf.Strings.SlTrimAscii
namespace Go.Proofs.YtckcdbkggaoomaaDoor
open Go.RowKit Vc
variable {w : World}

/-! ### Letters and digits -/
def letR (r : Int) : Bool := decide ((97 ≤ r ∧ r ≤ 122) ∨ (65 ≤ r ∧ r ≤ 90) ∨ r = 95)
def digR (r : Int) : Bool := decide (48 ≤ r ∧ r ≤ 57)
theorem u8_le (a c : UInt8) : decide (a ≤ c) = decide ((a.toNat : Int) ≤ (c.toNat : Int)) := by
  apply decide_eq_decide.2
  rw [UInt8.le_iff_toNat_le]
  omega
theorem isLet_int (c : UInt8) : isLet c = letR (c.toNat : Int) := by
  unfold isLet letR
  rw [u8_le, u8_le, u8_le, u8_le, show (c == 95) = decide ((c.toNat : Int) = 95) by rw [Bool.eq_iff_iff]; simp [← UInt8.toNat_inj]; omega]
  rw [Bool.eq_iff_iff]
  simp
  omega
theorem isDig_int (c : UInt8) : isDig c = digR (c.toNat : Int) := by
  unfold isDig digR
  rw [u8_le, u8_le, Bool.eq_iff_iff]
  simp
theorem nt {p : Prop} [Decidable p] (h : (!decide p) = true) : ¬ p := by simpa using h
theorem nf {p : Prop} [Decidable p] (h : (!decide p) = false) : p := by simpa using h
theorem ret_bool {b b' : Bool} (h : b = b') : (Ending.returned (.bool b) = .returned (.bool b') ∧ w = w) := by rw [h]; exact ⟨rfl, rfl⟩
theorem word_letter_spec (r : Int) : Calls Tryd.prog fn_word_letter #[.int .i32 r] w (fun e w' => e = .returned (.bool (letR r)) ∧ w' = w) := by
  refine word_letter_calls _ _ _ ?_
  unfold letR
  repeat' refine bsel_of (fun h => ?_) (fun h => ?_)
  all_goals simp only [decide_eq_true_eq, decide_eq_false_iff_not] at *
  all_goals refine ⟨congrArg (fun b => Ending.returned (.bool b)) ?_, trivial⟩
  all_goals first | exact (decide_eq_true (by omega)).symm | exact decide_eq_decide.2 (by omega)
theorem word_digit_spec (r : Int) : Calls Tryd.prog fn_word_digit #[.int .i32 r] w (fun e w' => e = .returned (.bool (digR r)) ∧ w' = w) := by
  refine word_digit_calls _ _ _ ?_
  unfold digR
  repeat' refine bsel_of (fun h => ?_) (fun h => ?_)
  all_goals simp only [decide_eq_true_eq, decide_eq_false_iff_not] at *
  all_goals refine ⟨congrArg (fun b => Ending.returned (.bool b)) ?_, trivial⟩
  all_goals first | exact (decide_eq_false (by omega)).symm | exact decide_eq_decide.2 (by omega)
theorem ref_letter_spec (c : UInt8) : Calls Tryd.prog fn_ref08_letter #[.int .u8 (c.toNat : Int)] w (fun e w' => e = .returned (.bool (isLet c)) ∧ w' = w) := by
  refine ref08_letter_calls _ _ _ ?_
  rw [isLet_int]
  unfold letR
  repeat' refine bsel_of (fun h => ?_) (fun h => ?_)
  all_goals simp only [decide_eq_true_eq, decide_eq_false_iff_not] at *
  all_goals refine ⟨congrArg (fun b => Ending.returned (.bool b)) ?_, trivial⟩
  all_goals first | exact (decide_eq_true (by omega)).symm | exact decide_eq_decide.2 (by omega)
theorem ref_digit_spec (c : UInt8) : Calls Tryd.prog fn_ref08_digit #[.int .u8 (c.toNat : Int)] w (fun e w' => e = .returned (.bool (isDig c)) ∧ w' = w) := by
  refine ref08_digit_calls _ _ _ ?_
  rw [isDig_int]
  unfold digR
  repeat' refine bsel_of (fun h => ?_) (fun h => ?_)
  all_goals simp only [decide_eq_true_eq, decide_eq_false_iff_not] at *
  all_goals refine ⟨congrArg (fun b => Ending.returned (.bool b)) ?_, trivial⟩
  all_goals first | exact (decide_eq_false (by omega)).symm | exact decide_eq_decide.2 (by omega)
theorem spec_eq (c k : UInt8) : decide ((c.toNat : Int) = (k.toNat : Int)) = (c == k) := by
  rw [Bool.eq_iff_iff]
  simp only [decide_eq_true_eq, beq_iff_eq]
  exact byte_eq
theorem ref_special_spec (c : UInt8) : Calls Tryd.prog fn_ref08_special #[.int .u8 (c.toNat : Int)] w (fun e w' => e = .returned (.bool (isSpec c)) ∧ w' = w) := by
  refine ref08_special_calls _ _ _ ?_
  refine (ref_digit_spec c).mono ?_
  rintro _ w1 ⟨rfl, rfl⟩
  have e1 := spec_eq c 35
  have e2 := spec_eq c 63
  have e3 := spec_eq c 64
  have e4 := spec_eq c 42
  unfold isSpec
  rw [← e1, ← e2, ← e3, ← e4]
  refine .inl ⟨_, rfl, bsel_of (fun h => ret_bool (by rw [h]; rfl)) (fun h => bsel_of (fun h2 => ret_bool ?_) (fun h2 => bsel_of (fun h3 => ret_bool ?_) (fun h3 => bsel_of (fun h4 => ret_bool ?_) (fun h4 => ret_bool ?_))))⟩
  · have h2 : decide ((c.toNat : Int) = ((35 : UInt8).toNat : Int)) = true := h2
    rw [h2]; simp
  · have h3 : decide ((c.toNat : Int) = ((63 : UInt8).toNat : Int)) = true := h3
    rw [h3]; simp
  · have h4 : decide ((c.toNat : Int) = ((64 : UInt8).toNat : Int)) = true := h4
    rw [h4]; simp
  · have h2 : decide ((c.toNat : Int) = ((35 : UInt8).toNat : Int)) = false := h2
    have h3 : decide ((c.toNat : Int) = ((63 : UInt8).toNat : Int)) = false := h3
    have h4 : decide ((c.toNat : Int) = ((64 : UInt8).toNat : Int)) = false := h4
    rw [h, h2, h3, h4]
    rfl

/-! ### Names -/
theorem takeWhile_step {p : UInt8 → Bool} : ∀ {l : Txt} {k : Nat} (hk : k < l.length), k ≤ (l.takeWhile p).length → (p l[k] = true → k + 1 ≤ (l.takeWhile p).length) ∧ (p l[k] = false → (l.takeWhile p).length = k)
  | a :: l, 0, _, _ => by
    refine ⟨fun h => ?_, fun h => ?_⟩
    · have h : p a = true := h
      rw [List.takeWhile_cons, if_pos h]
      simp
    · have h : p a = false := h
      rw [List.takeWhile_cons, if_neg (by rw [h]; decide)]
      rfl
  | a :: l, k + 1, hk, h => by
    rw [List.takeWhile_cons] at h ⊢
    by_cases ha : p a = true
    · rw [if_pos ha] at h ⊢
      simp only [List.length_cons] at h hk ⊢
      have := takeWhile_step (p := p) (l := l) (k := k) (by omega) (by omega)
      refine ⟨fun hp => ?_, fun hp => ?_⟩
      · have := this.1 hp; omega
      · have := this.2 hp; omega
    · rw [if_neg ha] at h
      simp at h
theorem nameN_step {s : Txt} {k : Nat} (hk : k < s.length) (h : k ≤ nameN s) : ((isLet s[k] || (decide (0 < k) && isDig s[k])) = true → k + 1 ≤ nameN s) ∧ ((isLet s[k] || (decide (0 < k) && isDig s[k])) = false → nameN s = k) := by
  cases s with
  | nil => simp at hk
  | cons c r =>
    simp only [nameN] at h ⊢
    cases k with
    | zero =>
      have e : (c :: r)[0] = c := rfl
      rw [e]
      simp only [Nat.lt_irrefl, decide_false, Bool.false_and, Bool.or_false]
      refine ⟨fun hc => ?_, fun hc => ?_⟩
      · rw [if_pos hc]; omega
      · rw [if_neg (by rw [hc]; decide)]
    | succ k =>
      by_cases hc : isLet c = true
      · rw [if_pos hc] at h ⊢
        simp only [List.length_cons] at hk
        have := takeWhile_step (p := isNam) (l := r) (k := k) (by omega) (by omega)
        have e : (c :: r)[k + 1] = r[k]'(by omega) := rfl
        rw [e]
        simp only [Nat.zero_lt_succ, decide_true, Bool.true_and]
        refine ⟨fun hp => ?_, fun hp => ?_⟩
        · have := this.1 hp; omega
        · have := this.2 hp; omega
      · rw [if_neg hc] at h
        omega
theorem dec_low {b : Txt} {k : Nat} (hk : k < b.length) (h : b[k].toNat < 128) : Utf8.decode ⟨⟨b⟩⟩ k = (b[k].toNat, 1) := decode_ascii ⟨⟨b⟩⟩ k hk h
theorem dec_high {b : Txt} {k : Nat} (hk : k < b.length) (h : 128 ≤ b[k].toNat) : 128 ≤ (Utf8.decode ⟨⟨b⟩⟩ k).1 := by
  have e : (S b).get! (k + 0) = b[k] := by
    show (S b).get! k = _
    have hs : k < (S b).size := hk
    simp [ByteArray.get!, List.getElem?_eq_getElem hk]
  simp only [Utf8.decode, e]
  rw [if_neg (by omega)]
  unfold Utf8.runeError
  repeat' split
  all_goals simp_all
  all_goals omega
theorem rune_is {b : Txt} {k : Nat} (hk : k < b.length) : letR ((Utf8.decode ⟨⟨b⟩⟩ k).1 : Int) = isLet b[k] ∧ digR ((Utf8.decode ⟨⟨b⟩⟩ k).1 : Int) = isDig b[k] ∧ ((isLet b[k] || isDig b[k]) = true → (Utf8.decode ⟨⟨b⟩⟩ k).2 = 1) := by
  rcases Nat.lt_or_ge b[k].toNat 128 with hlt | hge
  · rw [dec_low hk hlt, isLet_int, isDig_int]
    exact ⟨rfl, rfl, fun _ => rfl⟩
  · have hh := dec_high hk hge
    rw [isLet_int, isDig_int]
    unfold letR digR
    refine ⟨?_, ?_, fun h => ?_⟩
    · rw [decide_eq_false (by omega), decide_eq_false (by omega)]
    · rw [decide_eq_false (by omega), decide_eq_false (by omega)]
    · exfalso
      simp at h
      omega
theorem iter_new (w : World) (o : Obj) : (w.alloc o).heap[w.heap.size]? = some o := heap_alloc_new w _
theorem iter_still {w1 : World} {g : Nat} (h : Still w w1) (hg : w.heap.size ≤ g) (s : ByteArray) (n : Nat) : Still w (w1.iterAt g s n) :=
  ⟨h.os, h.tape, h.output, by rw [Lib.iterAt_size]; exact h.size, fun k hk hn => (Lib.iterAt_other _ _ _ _ _ (by omega)).trans (h.block k hk hn)⟩
theorem Name_spec (s : Txt) (_hl : s.length < 1000000) : Calls Tryd.prog fn_word_Name #[.string (S s)] w (fun e w' => e = .returned (.string (S (s.take (nameN s)))) ∧ Still w w') := by
  refine word_Name_calls _ _ _ ?_
  refine letIn ?_
  refine ⟨fun w1 => ∃ k : Nat, w1.heap[w.heap.size]? = some (.stringIter ⟨⟨s⟩⟩ k) ∧ k ≤ nameN s ∧ Still w w1, fun w1 => match w1.heap[w.heap.size]? with
    | some (.stringIter _ k) => s.length - k
    | _ => 0, ⟨0, iter_new _ _, Nat.zero_le _, (Mod.refl _ _).alloc _⟩, ?_⟩
  rintro _ w2 ⟨k, hk, hkn, hs2⟩
  have hnl := nameN_le s
  refine ⟨rfl, s, k, hk, bsel_of (fun hx => ?_) (fun hx => ?_)⟩
  rotate_left
  · have hx := of_decide_eq_false hx
    rw [List.take_of_length_le (by omega)]
    exact ⟨rfl, hs2⟩
  have hx := of_decide_eq_true hx
  obtain ⟨r1, r2, r3⟩ := rune_is hx
  obtain ⟨n1, n2⟩ := nameN_step hx hkn
  refine letIn ?_
  have hs3 : Still w (w2.iterAt w.heap.size ⟨⟨s⟩⟩ (k + (Utf8.decode ⟨⟨s⟩⟩ k).2)) := iter_still hs2 (Nat.le_refl _) _ _
  have hk3 : (w2.iterAt w.heap.size ⟨⟨s⟩⟩ (k + (Utf8.decode ⟨⟨s⟩⟩ k).2)).heap[w.heap.size]? = some (.stringIter ⟨⟨s⟩⟩ (k + (Utf8.decode ⟨⟨s⟩⟩ k).2)) := Lib.iterAt_heap _ _ _ _ _ hk
  have on : (isLet s[k] || (decide (0 < k) && isDig s[k])) = true → ∀ w4, w4 = w2.iterAt w.heap.size ⟨⟨s⟩⟩ (k + (Utf8.decode ⟨⟨s⟩⟩ k).2) → (∃ k : Nat, w4.heap[w.heap.size]? = some (.stringIter ⟨⟨s⟩⟩ k) ∧ k ≤ nameN s ∧ Still w w4) ∧ (match w4.heap[w.heap.size]? with
    | some (.stringIter _ k) => s.length - k
    | _ => 0) < (match w2.heap[w.heap.size]? with
    | some (.stringIter _ k) => s.length - k
    | _ => 0) := by
    rintro ho _ rfl
    have h1 := r3 (by
      rw [Bool.or_eq_true] at ho ⊢
      rcases ho with ho | ho
      · exact .inl ho
      · rw [Bool.and_eq_true] at ho
        exact .inr ho.2)
    rw [h1] at hk3 hs3 ⊢
    refine ⟨⟨k + 1, hk3, n1 ho, hs3⟩, ?_⟩
    rw [hk3, hk]
    show s.length - (k + 1) < s.length - k
    omega
  have off : (isLet s[k] || (decide (0 < k) && isDig s[k])) = false → ∀ w4, w4 = w2.iterAt w.heap.size ⟨⟨s⟩⟩ (k + (Utf8.decode ⟨⟨s⟩⟩ k).2) → (Ending.returned (.string (S (s.take (Int.toNat (k : Int))))) = .returned (.string (S (s.take (nameN s)))) ∧ Still w w4) := by
    rintro ho _ rfl
    rw [n2 ho, Int.toNat_natCast]
    exact ⟨rfl, hs3⟩
  refine (word_letter_spec _).mono ?_
  rintro _ w4 ⟨rfl, rfl⟩
  rw [r1]
  refine .inl ⟨_, rfl, bsel_of (fun h => ?_) (fun h => ?_)⟩
  · have h : isLet s[k] = false := by simpa using h
    refine bsel_of (fun h0 => ?_) (fun h0 => ?_)
    · have h0 : (k : Int) = 0 := of_decide_eq_true h0
      refine ⟨by omega, by omega, off ?_ _ rfl⟩
      rw [h, decide_eq_false (by omega)]
      rfl
    · have h0 : (k : Int) ≠ 0 := of_decide_eq_false h0
      refine (word_digit_spec _).mono ?_
      rintro _ w5 ⟨rfl, rfl⟩
      rw [r2]
      refine .inl ⟨_, rfl, bsel_of (fun h5 => ?_) (fun h5 => ?_)⟩
      · have h5 : isDig s[k] = false := by simpa using h5
        refine ⟨by omega, by omega, off ?_ _ rfl⟩
        rw [h, h5, Bool.and_false]
        rfl
      · have h5 : isDig s[k] = true := by simpa using h5
        exact on (by rw [h, h5, decide_eq_true (by omega)]; rfl) _ rfl
  · have h : isLet s[k] = true := by simpa using h
    exact on (by rw [h]; rfl) _ rfl
theorem take_nil {s : Txt} {n : Nat} (h : n ≤ s.length) : s.take n = [] ↔ n = 0 := by
  refine ⟨fun e => ?_, fun e => by rw [e]; rfl⟩
  have := congrArg List.length e
  rw [List.length_take, List.length_nil] at this
  omega
theorem take_all {s : Txt} {n : Nat} (h : n ≤ s.length) : s.take n = s ↔ n = s.length := by
  refine ⟨fun e => ?_, fun e => by rw [e, List.take_length]⟩
  have := congrArg List.length e
  rw [List.length_take] at this
  omega
theorem IsName_spec (s : Txt) (hl : s.length < 1000000) : Calls Tryd.prog fn_word_IsName #[.string (S s)] w (fun e w' => e = .returned (.bool (decide (s ≠ [] ∧ nameN s = s.length))) ∧ Still w w') := by
  refine word_IsName_calls _ _ _ ?_
  refine bsel_of (fun h => ?_) (fun h => ?_)
  · have h : s ≠ [] := by simpa using h
    refine (Name_spec s hl).mono ?_
    rintro _ w1 ⟨rfl, hs1⟩
    refine .inl ⟨_, rfl, ?_, hs1⟩
    congr 2
    apply decide_eq_decide.2
    rw [take_all (nameN_le s)]
    exact ⟨fun e => ⟨h, e⟩, fun e => e.2⟩
  · have h : s = [] := by simpa using h
    subst h
    exact ⟨rfl, Still.refl _⟩
theorem ref_Name_spec (s : Txt) (hl : s.length < 1000000) : Calls Tryd.prog fn_ref08_Name #[.string (S s)] w (fun e w' => e = .returned (.int .i64 (nameN s : Int)) ∧ w' = w) := by
  refine ref08_Name_calls _ _ _ ?_
  refine ⟨fun n w1 => ∃ k : Nat, n = (k : Int) ∧ k ≤ nameN s ∧ w1 = w, fun n _ => s.length - n.toNat, ⟨0, rfl, Nat.zero_le _, rfl⟩, ?_⟩
  rintro _ _ w1 ⟨k, rfl, hk, rfl⟩
  have hnl := nameN_le s
  refine bsel_of (fun hx => ?_) (fun hx => ?_)
  rotate_left
  · have hx := of_decide_eq_false hx
    have : k = nameN s := by omega
    rw [this]
    exact ⟨rfl, rfl⟩
  have hx : k < s.length := by have := of_decide_eq_true hx; omega
  obtain ⟨n1, n2⟩ := nameN_step hx hk
  have e1 : IntKind.i64.wrap ((k : Int) + 1) = ((k + 1 : Nat) : Int) := by rw [wrap_i64 (by omega) (by omega)]; omega
  rw [e1]
  refine ⟨by omega, s[k], by rw [Int.toNat_natCast]; exact getD_some hx, (ref_letter_spec _).mono ?_⟩
  rintro _ w2 ⟨rfl, rfl⟩
  refine .inl ⟨_, rfl, bsel_of (fun h => ?_) (fun h => ?_)⟩
  · exact ⟨⟨k + 1, rfl, n1 (by rw [h]; rfl), rfl⟩, by dsimp only; omega⟩
  · refine bsel_of (fun h0 => ?_) (fun h0 => ?_)
    · have h0 := of_decide_eq_true h0
      refine ⟨by omega, s[k], by rw [Int.toNat_natCast]; exact getD_some hx, (ref_digit_spec _).mono ?_⟩
      rintro _ w3 ⟨rfl, rfl⟩
      refine .inl ⟨_, rfl, bsel_of (fun h5 => ?_) (fun h5 => ?_)⟩
      · exact ⟨⟨k + 1, rfl, n1 (by rw [h, h5, decide_eq_true (by omega)]; rfl), rfl⟩, by dsimp only; omega⟩
      · rw [n2 (by rw [h, h5, Bool.and_false]; rfl)]
        exact ⟨rfl, rfl⟩
    · have h0 := of_decide_eq_false h0
      rw [n2 (by rw [h, decide_eq_false (by omega)]; rfl)]
      exact ⟨rfl, rfl⟩

/-! ### Parameters -/
theorem index_mem : ∀ (l : Txt) (c : UInt8), decide ((0 : Int) ≤ Go.Lib.indexByte l c) = l.contains c
  | [], c => rfl
  | b :: r, c => by
    have ih := index_mem r c
    simp only [Go.Lib.indexByte, beq_iff_eq, List.contains_cons]
    by_cases h : b = c
    · subst h
      simp
    · have h2 : ¬ c = b := fun e => h e.symm
      rw [if_neg h]
      have h3 : (c == b) = false := by simpa using h2
      rw [h3, Bool.false_or, ← ih]
      split
      · rename_i he
        rw [he]
      · rename_i he
        have h4 : ∀ (l : Txt) (c : UInt8), -1 ≤ Go.Lib.indexByte l c := by
          intro l c
          induction l with
          | nil => exact Int.le_refl (-1)
          | cons x l ih =>
            simp only [Go.Lib.indexByte]
            split
            · decide
            · split <;> omega
        have := h4 r c
        rw [decide_eq_true (by omega), decide_eq_true (by omega)]
theorem toUInt8_back (b : UInt8) : (((b.toNat : Nat) : Int)).toNat.toUInt8 = b := by
  rw [Int.toNat_natCast]
  simp
theorem index_spec (l : Txt) (c : UInt8) : Calls Tryd.prog fn_strings_IndexByte #[.string (S l), .int .u8 (c.toNat : Int)] w (fun e w' => (∃ n : Int, e = .returned (.int .i64 n) ∧ decide (0 ≤ n) = l.contains c) ∧ w' = w) := by
  refine (Tryd.strings_IndexByte (S l) _ _).mono ?_
  rintro _ w1 ⟨rfl, rfl⟩
  rw [toUInt8_back]
  exact ⟨⟨_, rfl, index_mem l c⟩, rfl⟩
theorem trimLeft_spec (s : Txt) (cs : Txt) (hcs : cs.length < 4294967281) (ha : cs.all (fun b => decide (b.toNat < 128)) = true) : Calls Tryd.prog fn_strings_TrimLeft #[.string (S s), .string (S cs)] w (fun e w' => e = .returned (.string (S (s.dropWhile (cs.contains ·)))) ∧ Still w w') := by
  refine (Any.strings_TrimLeft_laid Tryd.lays161 (by kernel_rfl) (S s) (S cs) w (by simpa [ByteArray.size] using hcs) (ascii_of_all ha)).mono ?_
  rintro _ w' ⟨rfl, hb⟩
  exact ⟨rfl, (Still.refl w).trans' hb (Nat.le_refl _)⟩
theorem digs_has (c : UInt8) : ([48, 49, 50, 51, 52, 53, 54, 55, 56, 57] : Txt).contains c = isDig c := by
  have h : ∀ n : Nat, n < 256 → ([48, 49, 50, 51, 52, 53, 54, 55, 56, 57] : Txt).contains (UInt8.ofNat n) = isDig (UInt8.ofNat n) := by decide +kernel
  have := h c.toNat c.toNat_lt
  rwa [UInt8.ofNat_toNat] at this
theorem drop_dig (s : Txt) : s.dropWhile (([48, 49, 50, 51, 52, 53, 54, 55, 56, 57] : Txt).contains ·) = s.drop (digN s) := by
  have e : (([48, 49, 50, 51, 52, 53, 54, 55, 56, 57] : Txt).contains · : UInt8 → Bool) = isDig := by funext c; exact digs_has c
  rw [e]
  unfold digN
  induction s with
  | nil => rfl
  | cons c s ih =>
    rw [List.dropWhile_cons, List.takeWhile_cons]
    split
    · rw [List.length_cons, List.drop_succ_cons]
      exact ih
    · rfl
theorem digN_zero {c : UInt8} {r : Txt} (h : digN (c :: r) = 0) : isDig c = false := by
  unfold digN at h
  rw [List.takeWhile_cons] at h
  split at h
  · cases h
  · rename_i hc
    simpa using hc
theorem param_spec (s : Txt) (hl : s.length < 1000000) : Calls Tryd.prog fn_word_param #[.string (S s)] w (fun e w' => e = .returned (.string (S (s.take (paramN s)))) ∧ Still w w') := by
  refine word_param_calls _ _ _ ?_
  refine (Name_spec s hl).mono ?_
  rintro _ w1 ⟨rfl, hs1⟩
  refine .inl ⟨_, rfl, bsel_of (fun h => ?_) (fun h => ?_)⟩
  · have h : ¬ s.take (nameN s) = [] := nt h
    rw [take_nil (nameN_le s)] at h
    unfold paramN
    rw [if_pos (by omega)]
    exact ⟨rfl, hs1⟩
  have h : s.take (nameN s) = [] := nf h
  rw [take_nil (nameN_le s)] at h
  refine bsel_of (fun h0 => ?_) (fun h0 => ?_)
  · have h0 := of_decide_eq_true h0
    subst h0
    exact ⟨rfl, hs1⟩
  have h0 : s ≠ [] := of_decide_eq_false h0
  obtain ⟨c, r, rfl⟩ := List.exists_cons_of_ne_nil h0
  have hp : paramN (c :: r) = if 0 < digN (c :: r) then digN (c :: r) else specN (c :: r) := by
    unfold paramN
    rw [if_neg (by omega)]
  refine (trimLeft_spec (c :: r) _ (by decide) (by decide)).mono ?_
  rintro _ w2 ⟨rfl, hs2⟩
  have hs02 := hs1.trans hs2
  have hdl := digN_le (c :: r)
  rw [drop_dig]
  have e1 : IntKind.i64.wrap (((c :: r).length : Int) - (((c :: r).drop (digN (c :: r))).length : Int)) = (digN (c :: r) : Int) := by
    rw [List.length_drop, wrap_i64 (by omega) (by omega)]
    omega
  refine .inl ⟨_, rfl, ?_⟩
  rw [e1, Int.toNat_natCast]
  refine ⟨by omega, by omega, bsel_of (fun h1 => ?_) (fun h1 => ?_)⟩
  · have h1 : (c :: r).take (digN (c :: r)) = [] := of_decide_eq_true h1
    have h1' := (take_nil hdl).1 h1
    have hd := digN_zero h1'
    refine ⟨by decide, c, rfl, (index_spec _ c).mono ?_⟩
    rintro _ w3 ⟨⟨n, rfl, hn⟩, rfl⟩
    have hsp : isSpec c = ([35, 63, 64, 42] : Txt).contains c := by
      unfold isSpec
      rw [hd]
      simp only [List.contains_cons, List.contains_nil, Bool.or_false, Bool.false_or, Bool.or_assoc]
    rw [hp, if_neg (by omega)]
    simp only [specN]
    rw [hsp, ← hn]
    refine .inl ⟨_, rfl, bsel_of (fun h2 => ?_) (fun h2 => ?_)⟩
    · rw [if_pos h2]
      exact ⟨by decide, by simp only [List.length_cons]; omega, rfl, hs02⟩
    · rw [if_neg (by rw [h2]; decide), h1]
      exact ⟨rfl, hs02⟩
  · have h1 : ¬ (c :: r).take (digN (c :: r)) = [] := of_decide_eq_false h1
    rw [take_nil hdl] at h1
    rw [hp, if_pos (by omega)]
    exact ⟨rfl, hs02⟩
theorem ref_param_spec (s : Txt) (hl : s.length < 1000000) : Calls Tryd.prog fn_ref08_param #[.string (S s)] w (fun e w' => e = .returned (.int .i64 (paramN s : Int)) ∧ w' = w) := by
  refine ref08_param_calls _ _ _ ?_
  refine (ref_Name_spec s hl).mono ?_
  rintro _ w1 ⟨rfl, rfl⟩
  refine .inl ⟨_, rfl, bsel_of (fun h => ?_) (fun h => ?_)⟩
  · have h : (0 : Int) < (nameN s : Int) := of_decide_eq_true h
    unfold paramN
    rw [if_pos (by omega)]
    exact ⟨rfl, rfl⟩
  have h : ¬ (0 : Int) < (nameN s : Int) := of_decide_eq_false h
  have hz : nameN s = 0 := by omega
  refine bsel_of (fun h0 => ?_) (fun h0 => ?_)
  · have h0 := of_decide_eq_true h0
    subst h0
    exact ⟨rfl, rfl⟩
  have h0 : s ≠ [] := of_decide_eq_false h0
  obtain ⟨c, r, rfl⟩ := List.exists_cons_of_ne_nil h0
  have hp : paramN (c :: r) = if 0 < digN (c :: r) then digN (c :: r) else specN (c :: r) := by
    unfold paramN
    rw [if_neg (by omega)]
  have hdl := digN_le (c :: r)
  -- where digits end
  have stop : ∀ k : Nat, digN (c :: r) = k → ∀ w2 : World, w2 = w1 → bsel (decide ((k : Int) = 0)) ((0 : Int) ≤ 0 ∧ ∃ b1 : UInt8, (c :: r)[Int.toNat 0]? = some b1 ∧ Calls Tryd.prog fn_ref08_special #[.int .u8 (b1.toNat : Int)] w2 (fun ed w4 => (∃ r2, ed = .returned (.bool r2) ∧ bsel r2 (Ending.returned (.int .i64 1) = .returned (.int .i64 (paramN (c :: r) : Int)) ∧ w4 = w1) (Ending.returned (.int .i64 (k : Int)) = .returned (.int .i64 (paramN (c :: r) : Int)) ∧ w4 = w1)) ∨ (∃ ch, ed = .panicked ch ∧ (Ending.panicked ch = .returned (.int .i64 (paramN (c :: r) : Int)) ∧ w4 = w1))))
      (Ending.returned (.int .i64 (k : Int)) = .returned (.int .i64 (paramN (c :: r) : Int)) ∧ w2 = w1) := by
    rintro k hk w2 rfl
    refine bsel_of (fun h1 => ?_) (fun h1 => ?_)
    · have h1 : (k : Int) = 0 := of_decide_eq_true h1
      refine ⟨by decide, c, rfl, (ref_special_spec c).mono ?_⟩
      rintro _ w4 ⟨rfl, rfl⟩
      rw [hp, if_neg (by omega)]
      rw [show specN (c :: r) = if isSpec c = true then 1 else 0 from rfl]
      refine .inl ⟨_, rfl, bsel_of (fun h2 => ?_) (fun h2 => ?_)⟩
      · rw [if_pos h2]; exact ⟨rfl, rfl⟩
      · rw [if_neg (by rw [h2]; decide), h1]; exact ⟨rfl, rfl⟩
    · have h1 : ¬ (k : Int) = 0 := of_decide_eq_false h1
      rw [hp, if_pos (by omega), hk]
      exact ⟨rfl, rfl⟩
  refine ⟨fun n w2 => ∃ k : Nat, n = (k : Int) ∧ k ≤ digN (c :: r) ∧ w2 = w1, fun n _ => (c :: r).length - n.toNat, ⟨0, by rw [hz], Nat.zero_le _, rfl⟩, ?_⟩
  rintro _ _ w2 ⟨k, rfl, hk, rfl⟩
  refine bsel_of (fun hx => ?_) (fun hx => ?_)
  · have hx : k < (c :: r).length := by have := of_decide_eq_true hx; omega
    obtain ⟨n1, n2⟩ := takeWhile_step (p := isDig) hx hk
    have e1 : IntKind.i64.wrap ((k : Int) + 1) = ((k + 1 : Nat) : Int) := by rw [wrap_i64 (by omega) (by omega)]; omega
    rw [e1]
    refine ⟨by omega, (c :: r)[k], by rw [Int.toNat_natCast]; exact getD_some hx, (ref_digit_spec _).mono ?_⟩
    rintro _ w3 ⟨rfl, rfl⟩
    refine .inl ⟨_, rfl, bsel_of (fun h5 => ?_) (fun h5 => ?_)⟩
    · exact ⟨⟨k + 1, rfl, n1 h5, rfl⟩, by dsimp only; omega⟩
    · exact stop k (n2 h5) _ rfl
  · have hx : ¬ (k : Int) < ((c :: r).length : Int) := of_decide_eq_false hx
    exact stop k (by omega) _ rfl

/-! ### Operators -/
theorem pf_isPrefixOf (t s : Txt) : pf t s = t.isPrefixOf s := by
  unfold pf
  rw [Bool.eq_iff_iff, decide_eq_true_eq, List.isPrefixOf_iff_prefix]
  refine ⟨fun h => ?_, fun h => ⟨h.length_le, (List.prefix_iff_eq_take.1 h).symm⟩⟩
  rw [← h.2]
  exact List.take_prefix _ _
theorem hasPrefix_spec (s t : Txt) : Calls Tryd.prog fn_strings_HasPrefix #[.string (S s), .string (S t)] w (fun e w' => e = .returned (.bool (pf t s)) ∧ w' = w) := by
  refine (Tryd.strings_HasPrefix (S s) (S t) _).mono ?_
  rintro _ w1 ⟨rfl, rfl⟩
  rw [pf_isPrefixOf]
  exact ⟨rfl, rfl⟩
theorem find_step {l : List Txt} {f : Txt → Bool} {i : Nat} (h : i < l.length) : (l.drop i).find? f = if f l[i] = true then some l[i] else (l.drop (i + 1)).find? f := by
  rw [List.drop_eq_getElem_cons h, List.find?_cons]
  cases f l[i] <;> rfl
theorem operator_spec (s : Txt) : Calls Tryd.prog fn_word_operator #[.string (S s)] w (fun e w' => e = .returned (.string (S (opOf s))) ∧ Still w w') := by
  refine word_operator_calls _ _ _ ?_
  refine allocK fun w1 r1 s1 z1 => ?_
  have hr : StrsAt w1 (some ⟨w.heap.size, 0, none⟩) opsL.length opsL := StrsAt.row (l := opsL) r1
  refine ⟨fun x w2 => ∃ k : Nat, x = (k : Int) ∧ k ≤ 12 ∧ (opsL.drop k).find? (fun o => pf o s) = opsL.find? (fun o => pf o s) ∧ w2 = w1, fun x _ => 12 - x.toNat, ⟨0, rfl, by omega, rfl, rfl⟩, ?_⟩
  rintro _ _ w2 ⟨k, rfl, hk, hf, rfl⟩
  refine bsel_of (fun hx => ?_) (fun hx => ?_)
  · have hx : k < opsL.length := by have := of_decide_eq_true hx; show k < 12; omega
    have hx' : k < 12 := hx
    obtain ⟨a, ha, hc⟩ := hr.get hx
    obtain rfl := Option.some.inj ha
    rw [find_step hx] at hf
    refine ⟨by omega, by omega, _, by rw [Int.toNat_natCast, Nat.mul_one]; exact hc, (hasPrefix_spec s _).mono ?_⟩
    rintro _ w3 ⟨rfl, rfl⟩
    refine .inl ⟨_, rfl, bsel_of (fun h => ?_) (fun h => ?_)⟩
    · rw [if_pos h] at hf
      unfold opOf
      rw [← hf]
      exact ⟨rfl, s1⟩
    · rw [if_neg (by rw [h]; decide)] at hf
      rw [show IntKind.i64.wrap ((k : Int) + 1) = ((k + 1 : Nat) : Int) by rw [wrap_i64 (by omega) (by omega)]; omega]
      exact ⟨⟨k + 1, rfl, by omega, hf, rfl⟩, by dsimp only; omega⟩
  · have hx : k = 12 := by have := of_decide_eq_false hx; omega
    subst hx
    unfold opOf
    rw [← hf]
    exact ⟨rfl, s1⟩
theorem cutHash_spec (s : Txt) : Calls Tryd.prog fn_strings_CutPrefix #[.string (S s), .string (S [35])] w (fun e w' => e = .returned (.tuple #[.string (S (if s.head? = some 35 then s.drop 1 else s)), .bool (decide (s.head? = some 35))]) ∧ w' = w) := by
  refine strings_CutPrefix_calls _ _ _ _ ?_
  have ep : pf [35] s = decide (s.head? = some 35) := by
    rw [pf_isPrefixOf]
    cases s with
    | nil => rfl
    | cons c r =>
      rw [Bool.eq_iff_iff]
      simp [List.isPrefixOf]
      exact eq_comm
  have h : Calls Tryd.prog fn_internal_stringslite_CutPrefix #[.string (S s), .string (S [35])] w (fun e w' => e = .returned (.tuple #[.string (S (if s.head? = some 35 then s.drop 1 else s)), .bool (decide (s.head? = some 35))]) ∧ w' = w) := by
    refine internal_stringslite_CutPrefix_calls _ _ _ _ ?_
    refine (Tryd.stringslite_HasPrefix (S s) (S [35]) _).mono ?_
    rintro _ w1 ⟨rfl, rfl⟩
    have e2 : Lib.hasPrefix (S s).data.toList (S [35]).data.toList = pf [35] s := (pf_isPrefixOf _ _).symm
    rw [e2, ep]
    refine .inl ⟨_, rfl, bsel_of (fun h => ?_) (fun h => ?_)⟩
    · have h : ¬ s.head? = some 35 := by simpa using h
      rw [if_neg h, decide_eq_false h]
      exact ⟨rfl, rfl⟩
    · have h : s.head? = some 35 := by simpa using h
      rw [if_pos h, decide_eq_true h]
      have hl : 1 ≤ s.length := by
        cases s with
        | nil => cases h
        | cons c r => simp
      exact ⟨by decide, by simp only [List.length_cons, List.length_nil]; omega, rfl, rfl⟩
  refine h.mono ?_
  rintro _ w1 ⟨rfl, rfl⟩
  exact .inl ⟨_, _, rfl, rfl, rfl⟩
theorem ref_begins_spec (s t : Txt) (_hs : s.length < 1000000) (ht : t.length < 1000000) : Calls Tryd.prog fn_ref08_begins #[.string (S s), .string (S t)] w (fun e w' => e = .returned (.bool (pf t s)) ∧ w' = w) := by
  refine ref08_begins_calls _ _ _ _ ?_
  unfold pf
  refine bsel_of (fun h => ?_) (fun h => ?_)
  · have h := of_decide_eq_true h
    refine ⟨by omega, by omega, ?_, rfl⟩
    rw [Int.toNat_natCast]
    congr 2
    apply decide_eq_decide.2
    exact ⟨fun e => ⟨by omega, e⟩, fun e => e.2⟩
  · have h := of_decide_eq_false h
    refine ⟨?_, rfl⟩
    rw [decide_eq_false]
    intro e
    omega
end Go.Proofs.YtckcdbkggaoomaaDoor
