/- Tuples: the program's encoding, the reference. Conditions: the library's tables and errors lie as its text lays them (Env). -/
import Derived.Test.YtkbhpfihgjcjpaaDoorTupProg
namespace Go.Proofs.YtkbhpfihgjcjpaaDoor
open Go.RowKit Vc
variable {w : World}
theorem calleeK_mk {g : FuncId} {first cap : List Value} {K : FuncId → List Value → List Value → Prop} (h : K g first cap) : calleeK (.func (.func g) ⟨first⟩ ⟨cap⟩) K := h
theorem liesB0 : LiesB 40 2 0 := by unfold LiesB; kernel_rfl
theorem encode1_spec {w0 : World} {g B : Nat} {cs : List Value} {v : Value} {bs : List UInt8} (he : Env w0) (h0 : Still w0 w) (hb : BldAt w 40 g 0 B cs v bs) (hcs : cs.length = 2) (hg : w0.heap.size ≤ g) (hB0 : w0.heap.size ≤ B) (hB : B ≤ w.heap.size)
    (x : Txt) (hx : (dec x.length).length ≤ 9) (hbs : bs.length + x.length ≤ 70000000000000) :
    Calls Tryd.prog fn_tuple_Encode_1 #[.pointer (some ⟨g, 0, none⟩), .string (S x)] w (fun e w' => e = .returned (.pointer (some ⟨g, 0, none⟩)) ∧ ∃ cs' v', cs'.length = 2 ∧ BldAt w' 40 g 0 B cs' v' (bs ++ one x) ∧ Still w0 w' ∧ w.heap.size ≤ w'.heap.size) := by
  refine tuple_Encode_1_calls _ _ _ _ ?_
  refine (itoa_spec (he.still h0) (x.length : Int) (by omega) (by omega)).mono ?_
  rintro _ w1 ⟨rfl, hs1⟩
  rw [Lib.itoa_nonneg]
  have hdx : (Lib.decDigits x.length).length ≤ 9 := hx
  have ho : ((((dec x.length) ++ [58]) ++ x) ++ [44]).length ≤ 11 + x.length := by simp only [List.length_append, List.length_cons, List.length_nil]; omega
  refine .inl ⟨_, rfl, ?_⟩
  have el1 : ([58] : List UInt8).length = 1 := rfl
  have el2 : ([44] : List UInt8).length = 1 := rfl
  refine ⟨by rw [el1]; omega, by rw [List.length_append, el1]; omega, by rw [List.length_append, List.length_append, el1, el2]; omega, ?_⟩
  refine (writeString_spec (hb.still hs1) (by rw [hcs]; exact liesB0) (one x) (by have := hs1.size; omega) (by have : (one x).length ≤ 11 + x.length := ho; omega)).mono ?_
  rintro _ w2 ⟨rfl, v', h1, h2⟩
  refine .inl ⟨_, _, rfl, rfl, rfl, _, v', by simp [hcs], h1, ?_, ?_⟩
  · refine Mod.trans (h0.trans hs1) h2 (fun _ h => h) (fun i hi e => ?_)
    rcases e with rfl | e
    · omega
    · have := hb.own.ownLt e
      omega
  · have := hs1.size
    have := h2.size
    omega
theorem fold_spec {w0 : World} {g B : Nat} {cs : List Value} (he : Env w0) (h0 : Still w0 w) (hb : BldAt w 40 g 0 B cs (.slice none 0 0) []) (hcs : cs.length = 2) (hg : w0.heap.size ≤ g) (hB0 : w0.heap.size ≤ B) (hB : B ≤ w.heap.size)
    {l : Option Addr} {lL lC : Nat} {ls : List Txt} (hl : StrsAt w0 l lL ls) (ht : total ls ≤ 100000) :
    Calls Tryd.prog fn_tuple_fold_string_strings_Builder #[.slice l lL lC, .pointer (some ⟨g, 0, none⟩), .func (.func fn_tuple_Encode_1) #[] #[]] w (fun e w' => e = .returned (.pointer (some ⟨g, 0, none⟩)) ∧ ∃ cs' v', BldAt w' 40 g 0 B cs' v' (encode ls) ∧ Still w0 w') := by
  refine tuple_fold_string_strings_Builder_calls _ _ _ _ _ _ _ ?_
  have hn9 := few_nine ht
  have hlen := hl.1
  have htl := total_length ls
  refine ⟨fun r x w1 => ∃ (i : Nat) (cs : List Value) (v : Value), r = some ⟨g, 0, none⟩ ∧ x = (i : Int) ∧ i ≤ lL ∧ cs.length = 2 ∧ BldAt w1 40 g 0 B cs v (encode (ls.take i)) ∧ Still w0 w1 ∧ B ≤ w1.heap.size, fun _ x _ => lL - x.toNat,
    ⟨0, cs, _, rfl, rfl, Nat.zero_le _, hcs, hb, h0, hB⟩, ?_⟩
  rintro _ _ _ w1 ⟨i, cs1, v, rfl, rfl, hi, hcs1, hb1, hs1, hB1⟩
  refine bsel_of (fun hx => ?_) (fun hx => ?_)
  · have hx : i < lL := by have := of_decide_eq_true hx; omega
    have e1 : IntKind.i64.wrap ((i : Int) + 1) = ((i + 1 : Nat) : Int) := by rw [wrap_i64 (by omega) (by omega)]; omega
    obtain ⟨a, rfl, hc⟩ := (hl.still hs1).get hx
    refine ⟨by omega, by omega, _, by rw [Int.toNat_natCast, Nat.mul_one]; exact hc, calleeK_mk (g := fn_tuple_Encode_1) (first := []) (cap := []) ?_⟩
    refine bsel_of (fun _ => ?_) (fun h => absurd h (by rw [show callable Tryd.prog fn_tuple_Encode_1 = true by kernel_rfl]; decide))
    have hil : i < ls.length := by omega
    have htk := take_snoc hil
    have hmem : ls[i] ∈ ls := List.getElem_mem hil
    have hel := encode_len (l := ls.take i) (fun x hx => hn9 x (List.mem_of_mem_take hx))
    have htt := total_take_le ls i
    have hm := total_mem hmem
    refine (encode1_spec he hs1 hb1 hcs1 hg hB0 hB1 ls[i] (hn9 _ hmem) (by omega)).mono ?_
    rintro _ w2 ⟨rfl, cs2, v2, hcs2, hb2, hs2, hz2⟩
    refine .inl ⟨_, rfl, ?_⟩
    rw [e1]
    refine ⟨⟨i + 1, cs2, v2, rfl, rfl, hx, hcs2, ?_, hs2, by omega⟩, by dsimp only; omega⟩
    rw [htk, encode_append]
    have : encode [ls[i]] = one ls[i] := by simp [encode]
    rw [this]
    exact hb2
  · have hx : i = ls.length := by have := of_decide_eq_false hx; omega
    rw [hx, List.take_length] at hb1
    exact ⟨rfl, _, _, hb1, hs1⟩
theorem encode_spec (he : Env w) {l : Option Addr} {lL lC : Nat} {ls : List Txt} (hl : StrsAt w l lL ls) (ht : total ls ≤ 100000) :
    Calls Tryd.prog fn_tuple_Encode #[.slice l lL lC] w (fun e w' => e = .returned (.string (S (encode ls))) ∧ Still w w') := by
  refine tuple_Encode_calls _ _ _ _ _ ?_
  refine allocK fun w1 hr1 hs1 hz1 => ?_
  refine (fold_spec (B := w1.heap.size) he hs1 (BldAt.fresh hr1 rfl rfl) rfl (Nat.le_refl _) (by omega) (Nat.le_refl _) hl ht).mono ?_
  rintro _ w2 ⟨rfl, cs2, v2, hb2, hs2⟩
  refine .inl ⟨_, rfl, ?_⟩
  have hel := encode_len (few_nine ht)
  refine (string_spec hb2 (by omega)).mono ?_
  rintro _ w3 ⟨rfl, hm3⟩
  refine .inl ⟨_, rfl, rfl, Mod.trans hs2 hm3 (fun _ h => h) (fun i hi e => ?_)⟩
  have := hb2.own.ownLt e
  omega
theorem numR_none {s : Txt} (h : ¬ (s ≠ [] ∧ s.length ≤ 9 ∧ s.all isDig = true ∧ (s.head? = some 48 → s.length = 1))) : numR s = none := by unfold numR; rw [if_neg h]
theorem refnumber_spec (s : Txt) (hs : s.length ≤ 1000000) :
    Calls Tryd.prog fn_ref02_Number #[.string (S s)] w (fun e w' => e = .returned (.int .i64 (match numR s with | some n => (n : Int) | none => -1)) ∧ w' = w) := by
  refine ref02_Number_calls _ _ _ ?_
  have fail : ∀ {w1 : World}, numR s = none → w1 = w → (Ending.returned (.int .i64 (-1))) = .returned (.int .i64 (match numR s with | some n => (n : Int) | none => -1)) ∧ w1 = w := by
    intro w1 h hw
    rw [h]
    exact ⟨rfl, hw⟩
  refine ⟨fun w1 => w1 = w ∧ s ≠ [] ∧ s.length ≤ 9 ∧ (s.head? = some 48 → s.length = 1), ⟨fun q w1 => w1 = w ∧ (q = true → numR s = none) ∧ (q = false → s ≠ [] ∧ s.length ≤ 9 ∧ (s.head? = some 48 → s.length = 1)), ?_, ?_⟩, ?_⟩
  · refine bsel_of (fun h => ?_) (fun h => ?_)
    · have h := of_decide_eq_true h
      exact ⟨rfl, fun _ => numR_none fun k => k.1 h, fun h => by cases h⟩
    have h0 : s ≠ [] := of_decide_eq_false h
    refine bsel_of (fun h => ?_) (fun h => ?_)
    · have h := of_decide_eq_true h
      exact ⟨rfl, fun _ => numR_none fun k => by have := k.2.1; omega, fun h => by cases h⟩
    have h9 : s.length ≤ 9 := by have := of_decide_eq_false h; omega
    cases s with
    | nil => exact absurd rfl h0
    | cons c t =>
      refine ⟨by decide, c, rfl, bsel_of (fun h1 => ?_) (fun h1 => ?_)⟩
      · have h1 : c = 48 := (byte_eq (b := 48)).1 (of_decide_eq_true h1)
        subst h1
        refine ⟨rfl, fun h => numR_none fun k => ?_, fun h => ⟨h0, h9, fun _ => ?_⟩⟩
        · have := k.2.2.2 rfl
          have := of_decide_eq_true h
          omega
        · have h := of_decide_eq_false h
          simp only [List.length_cons] at h ⊢
          omega
      · have h1 : c ≠ 48 := fun e => of_decide_eq_false h1 ((byte_eq (b := 48)).2 e)
        exact ⟨rfl, (fun h => by cases h), fun _ => ⟨h0, h9, fun e => absurd (by simpa using e) h1⟩⟩
  · rintro q _ w1 ⟨rfl, h1, h2⟩
    exact bsel_of (fun h => fail (h1 h) rfl) (fun h => ⟨rfl, h2 h⟩)
  rintro _ w2 ⟨rfl, hne, h9, hhead⟩
  refine ⟨fun n i w3 => ∃ k : Nat, i = (k : Int) ∧ k ≤ s.length ∧ n = ((valD (s.take k) 0 : Nat) : Int) ∧ (s.take k).all isDig = true ∧ w3 = w2, fun _ i _ => s.length - i.toNat, ⟨0, rfl, Nat.zero_le _, rfl, rfl, rfl⟩, ?_⟩
  rintro _ _ _ w3 ⟨k, rfl, hk, rfl, hd, rfl⟩
  refine bsel_of (fun hx => ?_) (fun hx => ?_)
  · have hx : k < s.length := by have := of_decide_eq_true hx; omega
    have e1 : IntKind.i64.wrap ((k : Int) + 1) = ((k + 1 : Nat) : Int) := by rw [wrap_i64 (by omega) (by omega)]; omega
    have hsk := getD_some hx
    have htk := take_snoc hx
    have hb := valD_bound hd 0
    have hp : 10 ^ (s.take k).length ≤ 1000000000 := Nat.le_trans (Nat.pow_le_pow_right (by decide) (show (s.take k).length ≤ 9 by rw [List.length_take]; omega)) (by decide)
    have hmem : s[k] ∈ s := List.getElem_mem hx
    generalize s[k] = c at *
    have no : isDig c = false → numR s = none := fun h => numR_none fun q => by rw [List.all_eq_true.1 q.2.2.1 _ hmem] at h; cases h
    refine ⟨by omega, c, by rw [Int.toNat_natCast]; exact hsk, bsel_of (fun h1 => ?_) (fun h1 => ?_)⟩
    · have h1 := of_decide_eq_true h1
      exact fail (no (by unfold isDig; rw [decide_eq_false (by omega)]; rfl)) rfl
    have h1 := of_decide_eq_false h1
    refine ⟨by omega, c, by rw [Int.toNat_natCast]; exact hsk, bsel_of (fun h2 => ?_) (fun h2 => ?_)⟩
    · have h2 := of_decide_eq_true h2
      exact fail (no (by unfold isDig; rw [decide_eq_false (p := c.toNat ≤ 57) (by omega), Bool.and_false])) rfl
    have h2 := of_decide_eq_false h2
    have hdc : isDig c = true := by unfold isDig; rw [decide_eq_true (by omega), decide_eq_true (by omega)]; rfl
    refine ⟨by omega, c, by rw [Int.toNat_natCast]; exact hsk, ?_⟩
    have e2 : IntKind.i64.wrap (IntKind.i64.wrap (IntKind.i64.wrap (((valD (s.take k) 0 : Nat) : Int) * 10) + IntKind.i64.wrap (c.toNat : Int)) - 48) = ((valD (s.take (k + 1)) 0 : Nat) : Int) := by
      rw [htk, valD_snoc]
      have hc := c.toNat_lt
      generalize valD (s.take k) 0 = q at *
      rw [wrap_i64 (n := (q : Int) * 10) (by omega) (by omega), wrap_i64 (n := (c.toNat : Int)) (by omega) (by omega), wrap_i64 (n := (q : Int) * 10 + (c.toNat : Int)) (by omega) (by omega), wrap_i64 (by omega) (by omega)]
      omega
    rw [e1, e2]
    refine ⟨⟨k + 1, rfl, hx, rfl, ?_, rfl⟩, by dsimp only; omega⟩
    rw [htk, List.all_append, hd]
    simp [hdc]
  · have hx : k = s.length := by have := of_decide_eq_false hx; omega
    rw [hx, List.take_length] at hd ⊢
    have : numR s = some (valD s 0) := by unfold numR; rw [if_pos ⟨hne, h9, hd, hhead⟩]
    rw [this]
    exact ⟨rfl, rfl⟩
end Go.Proofs.YtkbhpfihgjcjpaaDoor
