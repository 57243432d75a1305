/- Tuples: the reference's decoding and encoding, the three laws. Conditions: the library's tables and errors lie as its text lays them (Env). -/
import Derived.Test.YtkbhpfihgjcjpaaDoorTupProg2
namespace Go.Proofs.YtkbhpfihgjcjpaaDoor
open Go.RowKit Vc
variable {w : World}

set_option maxRecDepth 10000 in
theorem refdecode_spec (s : Txt) (hs : s.length ≤ 1000000) :
    Calls Tryd.prog fn_ref02_Decode #[.string (S s)] w (fun e w' => (∃ p n C k, e = .returned (.tuple #[.slice p n C, .int .i64 k]) ∧ DecAs s w' p n k) ∧ Still w w') := by
  refine ref02_Decode_calls _ _ _ ?_
  refine ⟨fun s1 l lL lC w1 => ∃ (acc : List Txt) (f : Nat), lL = acc.length ∧ decode s = decT f s1 acc ∧ s1.length < f ∧ acc.length + s1.length ≤ s.length ∧ Owns w1 w.heap.size 9 1 (.slice l lL lC) lL (strs acc) ∧ Still w w1, fun s1 _ _ _ _ => s1.length,
    ⟨[], s.length + 1, rfl, rfl, Nat.lt_succ_self _, by simp, Owns.nil _ _ _ _, Still.refl _⟩, ?_⟩
  rintro s1 l _ lC _ w1 ⟨acc, f, rfl, hd, hf, hal, ho, hst⟩
  cases f with
  | zero => omega
  | succ f =>
  simp only [decT] at hd
  refine bsel_of (fun h => ?_) (fun h => ?_)
  rotate_left
  · have hne : s1 = [] := by have := of_decide_eq_false h; exact List.eq_nil_of_length_eq_zero (by omega)
    rw [if_pos hne] at hd
    exact ⟨⟨_, _, _, _, rfl, acc, StrsAt.of ho, .inl ⟨rfl, hd⟩⟩, hst⟩
  have hne : s1 ≠ [] := by have := of_decide_eq_true h; intro e; rw [e] at this; exact absurd this (by decide)
  rw [if_neg hne] at hd
  have hcl := colon_le s1
  have fail : ∀ {w3 : World}, Still w w3 → step s1 = none → (∃ p n C k, (Ending.returned (.tuple #[.slice none 0 0, .int .i64 20])) = .returned (.tuple #[.slice p n C, .int .i64 k]) ∧ DecAs s w3 p n k) ∧ Still w w3 := by
    intro w3 hst3 h
    rw [h] at hd
    exact ⟨⟨_, _, _, _, rfl, DecAs.bad hd w3⟩, hst3⟩
  refine ⟨fun k w2 => ∃ j : Nat, k = (j : Int) ∧ j ≤ colon s1 ∧ w2 = w1, fun k _ => s1.length - k.toNat, ⟨0, rfl, Nat.zero_le _, rfl⟩, ?_⟩
  rintro _ _ w2 ⟨j, rfl, hj, rfl⟩
  refine ⟨fun q w3 => w3 = w2 ∧ q = decide (j < colon s1), ?_, ?_⟩
  · refine bsel_of (fun hx => ?_) (fun hx => ?_)
    · have hx : j < s1.length := by have := of_decide_eq_true hx; omega
      refine ⟨by omega, _, by rw [Int.toNat_natCast]; exact getD_some hx, rfl, ?_⟩
      by_cases hjc : j < colon s1
      · obtain ⟨c, hc, h58⟩ := colon_at hjc
        rw [getD_some hx] at hc
        rw [Option.some.inj hc, decide_eq_true hjc, decide_eq_false (p := (c.toNat : Int) = 58) (fun e => h58 ((byte_eq (b := 58)).1 e))]
        rfl
      · have hjc2 : j = colon s1 := by omega
        have h58 := colon_hit (s := s1) (by omega)
        rw [← hjc2, getD_some hx] at h58
        rw [Option.some.inj h58, decide_eq_false hjc]
        rfl
    · have hx := of_decide_eq_false hx
      exact ⟨rfl, by rw [decide_eq_false]; omega⟩
  rintro _ _ w3 ⟨rfl, rfl⟩
  refine bsel_of (fun hjc => ?_) (fun hjc => ?_)
  · have hjc := of_decide_eq_true hjc
    have e1 : IntKind.i64.wrap ((j : Int) + 1) = ((j + 1 : Nat) : Int) := by rw [wrap_i64 (by omega) (by omega)]; omega
    rw [e1]
    exact ⟨⟨j + 1, rfl, hjc, rfl⟩, by first | omega | (dsimp only; omega)⟩
  have hjc : j = colon s1 := by have := of_decide_eq_false hjc; omega
  subst hjc
  refine ⟨by omega, by omega, ?_⟩
  rw [Int.toNat_natCast]
  refine (refnumber_spec _ (by rw [List.length_take]; omega)).mono ?_
  rintro _ w4 ⟨rfl, rfl⟩
  refine .inl ⟨_, rfl, ?_⟩
  unfold step at fail hd
  cases hn : numR (s1.take (colon s1)) with
  | none =>
    rw [hn] at fail
    exact bsel_of (fun _ => fail hst rfl) (fun h => absurd h (by decide))
  | some n =>
  rw [hn] at fail hd
  dsimp only at fail hd ⊢
  have hn9 := numR_lt hn
  refine bsel_of (fun h => by have := of_decide_eq_true h; omega) (fun _ => ?_)
  have e1 : IntKind.i64.wrap (IntKind.i64.wrap ((n : Int) + (colon s1 : Int)) + 2) = ((colon s1 + 2 + n : Nat) : Int) := by rw [wrap_i64 (n := (n : Int) + _) (by omega) (by omega), wrap_i64 (by omega) (by omega)]; omega
  have e2 : IntKind.i64.wrap (IntKind.i64.wrap ((n : Int) + (colon s1 : Int)) + 1) = ((colon s1 + 1 + n : Nat) : Int) := by rw [wrap_i64 (n := (n : Int) + _) (by omega) (by omega), wrap_i64 (by omega) (by omega)]; omega
  have e3 : IntKind.i64.wrap ((colon s1 : Int) + 1) = ((colon s1 + 1 : Nat) : Int) := by rw [wrap_i64 (by omega) (by omega)]; omega
  rw [e1, e2, e3]
  refine bsel_of (fun h1 => ?_) (fun h1 => ?_)
  · have h1 := of_decide_eq_true h1
    refine fail hst (if_neg fun e => ?_)
    have := (List.getElem?_eq_some_iff.1 e).1
    omega
  have h1 := of_decide_eq_false h1
  have h1 : colon s1 + 1 + n < s1.length := by omega
  refine ⟨by omega, _, by rw [Int.toNat_natCast]; exact getD_some h1, bsel_of (fun h2 => ?_) (fun h2 => ?_)⟩
  · refine fail hst (if_neg fun e => ?_)
    rw [getD_some h1] at e
    rw [Option.some.inj e] at h2
    exact absurd h2 (by decide)
  have h2 : s1[colon s1 + 1 + n]? = some 44 := by
    rw [getD_some h1]
    congr 1
    exact (byte_eq (b := 44)).1 (nd h2)
  have hstep : step s1 = some ((s1.drop (colon s1 + 1)).take n, s1.drop (colon s1 + 2 + n)) := by
    unfold step
    rw [hn]
    dsimp only
    rw [if_pos h2]
  rw [if_pos h2] at hd
  dsimp only at hd
  have hf2 := step_form hstep
  rw [Int.toNat_natCast, Int.toNat_natCast, Int.toNat_natCast, show colon s1 + 1 + n - (colon s1 + 1) = n by omega]
  refine ⟨by omega, by omega, by omega, push1 ho (by have := hst.size; omega) rfl (fun u hu => by simp at hu; subst hu; rfl) (by omega) (by omega) fun p' c' w5 ho5 hm5 => ?_⟩
  refine ⟨by omega, by omega, ?_⟩
  refine ⟨⟨acc ++ [(s1.drop (colon s1 + 1)).take n], f, by simp, hd, by omega, by simp only [List.length_append, List.length_cons, List.length_nil]; omega, ?_, ?_⟩, hf2.2.1⟩
  · rw [strs_append]
    exact ho5
  · exact Still.own hst ho (Nat.le_refl _) hm5
theorem refencode_spec {l : Option Addr} {lL lC : Nat} {ls : List Txt} (hl : StrsAt w l lL ls) (ht : total ls ≤ 100000) :
    Calls Tryd.prog fn_ref02_Encode #[.slice l lL lC] w (fun e w' => e = .returned (.string (S (encode ls))) ∧ Still w w') := by
  refine ref02_Encode_calls _ _ _ _ _ ?_
  have hn9 := few_nine ht
  have hlen := hl.1
  have htl := total_length ls
  refine ⟨fun out x w1 => ∃ (i : Nat), x = (i : Int) ∧ i ≤ lL ∧ out = encode (ls.take i) ∧ Still w w1, fun _ x _ => lL - x.toNat, ⟨0, rfl, Nat.zero_le _, rfl, Still.refl _⟩, ?_⟩
  rintro _ _ _ w1 ⟨i, rfl, hi, rfl, hs1⟩
  refine bsel_of (fun hx => ?_) (fun hx => ?_)
  · have hx : i < lL := by have := of_decide_eq_true hx; omega
    have e1 : IntKind.i64.wrap ((i : Int) + 1) = ((i + 1 : Nat) : Int) := by rw [wrap_i64 (by omega) (by omega)]; omega
    have hil : i < ls.length := by omega
    have htk := take_snoc hil
    have hmem : ls[i] ∈ ls := List.getElem_mem hil
    have hel := encode_len (l := ls.take i) (fun x hx => hn9 x (List.mem_of_mem_take hx))
    have htt := total_take_le ls i
    have hm := total_mem hmem
    obtain ⟨a, rfl, _⟩ := (hl.still hs1).get hx
    have hc : ∀ wq : World, Still w wq → wq.cell? (a.add i) = some (.string (S ls[i])) := by
      intro wq hq
      obtain ⟨a', ha, hc⟩ := (hl.still hq).get hx
      injection ha with ha
      rw [ha]
      exact hc
    refine ⟨fun wq => Still w wq, hs1.toDrew, by omega, by omega, _, fun wq hq => by rw [Int.toNat_natCast, Nat.mul_one]; exact hc wq hq, by omega, by omega, _, fun wq hq => by rw [Int.toNat_natCast, Nat.mul_one]; exact hc wq hq, ?_⟩
    refine (digits_spec ls[i].length (by omega)).mono ?_
    rintro _ w2 ⟨rfl, hs2⟩
    have hst2 := hs1.toDrew.trans hs2
    have hd9 := hn9 _ hmem
    have el1 : ([58] : List UInt8).length = 1 := rfl
    have el2 : ([44] : List UInt8).length = 1 := rfl
    refine .inl ⟨_, rfl, hst2, by omega, ?_⟩
    simp only [List.length_append, el1, el2]
    refine ⟨by omega, by omega, by omega, ?_⟩
    rw [e1]
    refine ⟨⟨i + 1, rfl, hx, ?_, hst2⟩, by first | omega | (dsimp only; omega)⟩
    rw [htk, encode_append]
    simp [encode, one]
  · have hx : i = ls.length := by have := of_decide_eq_false hx; omega
    rw [hx, List.take_length]
    exact ⟨rfl, hs1⟩
theorem few_spec {l : Option Addr} {lL lC : Nat} {ls : List Txt} (hl : StrsAt w l lL ls) (hb : ∀ x ∈ ls, x.length ≤ 140737488355328) (hL : lL ≤ 140737488355328) :
    Calls Tryd.prog fn_law02_few #[.slice l lL lC] w (fun e w' => e = .returned (.bool (decide (total ls ≤ 2000))) ∧ w' = w) := by
  refine law02_few_calls _ _ _ _ _ ?_
  have hlen := hl.1
  refine ⟨fun n x w1 => ∃ (i : Nat), x = (i : Int) ∧ i ≤ lL ∧ n = ((total (ls.take i) : Nat) : Int) ∧ w1 = w, fun _ x _ => lL - x.toNat, ⟨0, rfl, Nat.zero_le _, rfl, rfl⟩, ?_⟩
  rintro _ _ _ w1 ⟨i, rfl, hi, rfl, rfl⟩
  have htt := total_take_le ls i
  have fin : (i = ls.length ∨ 2000 < total (ls.take i)) → (Ending.returned (.bool (decide (((total (ls.take i) : Nat) : Int) ≤ 2000)))) = .returned (.bool (decide (total ls ≤ 2000))) ∧ w1 = w1 := by
    rintro (h | h)
    · rw [h, List.take_length]
      refine ⟨?_, rfl⟩
      have : decide (((total ls : Nat) : Int) ≤ 2000) = decide (total ls ≤ 2000) := decide_eq_decide.2 (by omega)
      rw [this]
    · rw [decide_eq_false (by omega), decide_eq_false (by omega)]
      exact ⟨rfl, rfl⟩
  refine bsel_of (fun hx => ?_) (fun hx => ?_)
  · have hx : i < lL := by have := of_decide_eq_true hx; omega
    refine bsel_of (fun h2 => ?_) (fun h2 => ?_)
    · have h2 := of_decide_eq_true h2
      have hil : i < ls.length := by omega
      have htk := take_snoc hil
      have hmem := hb _ (List.getElem_mem hil)
      obtain ⟨a, rfl, hc⟩ := hl.get hx
      have e1 : IntKind.i64.wrap ((i : Int) + 1) = ((i + 1 : Nat) : Int) := by rw [wrap_i64 (by omega) (by omega)]; omega
      refine ⟨by omega, by omega, _, by rw [Int.toNat_natCast, Nat.mul_one]; exact hc, ?_⟩
      have e2 : IntKind.i64.wrap (IntKind.i64.wrap (((total (ls.take i) : Nat) : Int) + (ls[i].length : Int)) + 1) = ((total (ls.take (i + 1)) : Nat) : Int) := by
        rw [htk, total_snoc]
        rw [wrap_i64 (n := ((total (ls.take i) : Nat) : Int) + _) (by omega) (by omega), wrap_i64 (by omega) (by omega)]
        omega
      rw [e1, e2]
      exact ⟨⟨i + 1, rfl, hx, rfl, rfl⟩, by first | omega | (dsimp only; omega)⟩
    · have h2 := of_decide_eq_false h2
      exact fin (.inr (by omega))
  · have hx := of_decide_eq_false hx
    exact fin (.inl (by omega))
theorem decode_a : decode [49, 58, 97, 44, 48, 58, 44] = some [[97], []] := by
  have h : encode [[97], []] = [49, 58, 97, 44, 48, 58, 44] := by
    simp only [encode, one, List.map_cons, List.map_nil, List.length_cons, List.length_nil]
    rw [dec_small (by decide), dec_small (by decide)]
    decide
  rw [← h]
  exact decode_encode (few_nine (by decide))
theorem encode_a : encode [[97], []] = [49, 58, 97, 44, 48, 58, 44] := encode_decode decode_a
theorem decode_b : decode [48, 49, 58, 97, 44] = none := by
  have h : step [48, 49, 58, 97, 44] = none := by decide
  unfold decode
  simp only [decT]
  rw [if_neg (by decide), h]
theorem awake_spec (he : Env w) : Calls Tryd.prog fn_law02_awake #[] w (fun e w' => e = .returned (.bool true) ∧ Still w w') := by
  refine law02_awake_calls _ _ ?_
  refine (decode_spec he [49, 58, 97, 44, 48, 58, 44] (by decide)).mono ?_
  rintro _ w1 ⟨⟨p, n, C, k, rfl, hd⟩, hs1⟩
  refine .inl ⟨_, _, _, _, rfl, ?_⟩
  refine (decode_spec (he.still hs1) [48, 49, 58, 97, 44] (by decide)).mono ?_
  rintro _ w2 ⟨⟨p2, n2, C2, k2, rfl, hd2⟩, hs2⟩
  refine .inl ⟨_, _, _, _, rfl, ?_⟩
  have hs12 := hs1.trans hs2
  refine allocK fun w3 hr3 hs3 hz3 => ?_
  refine (encode_spec (he.still (hs12.trans hs3)) (lL := 2) (lC := 2) (ls := [[97], []]) ⟨rfl, At.row hr3⟩ (by decide)).mono ?_
  rintro _ w4 ⟨rfl, hs4⟩
  refine .inl ⟨_, rfl, bsel_of (fun _ => ?_) (fun h => absurd encode_a (of_decide_eq_false h))⟩
  obtain ⟨l, hl, hk⟩ := hd
  rw [decode_a] at hk
  obtain ⟨l2, hl2, hk2⟩ := hd2
  rw [decode_b] at hk2
  rcases hk with ⟨rfl, hk⟩ | ⟨_, _, hk⟩
  rotate_left
  · cases hk
  rcases hk2 with ⟨_, hk2⟩ | ⟨rfl, _, _⟩
  · cases hk2
  refine bsel_of (fun _ => ?_) (fun h => absurd h (by decide))
  injection hk with hk
  subst hk
  refine allocK fun w5 hr5 hs5 hz5 => ?_
  have hst5 := ((hs2.trans hs3).trans hs4).trans hs5
  obtain rfl : 2 = n := hl.1
  refine (same_spec (na := 2) (nb := 2) (hl.still hst5) (lb := [[97], []]) ⟨rfl, At.row hr5⟩ (by decide)).mono ?_
  rintro _ w6 ⟨rfl, hs6⟩
  exact .inl ⟨_, rfl, bsel_of (fun _ => ⟨rfl, (hs1.trans hst5).trans hs6⟩) (fun h => absurd h (by decide))⟩
end Go.Proofs.YtkbhpfihgjcjpaaDoor
