/- Tuples: the three laws' walks. Conditions: the library's tables and errors lie as its text lays them (Env). -/
import Derived.Test.YtkbhpfihgjcjpaaDoorTupLaw
namespace Go.Proofs.YtkbhpfihgjcjpaaDoor
open Go.RowKit Vc
variable {w : World}

theorem DecAs.out {s : Txt} {p : Option Addr} {n : Nat} {k : Int} (h : DecAs s w p n k) : StrsAt w p n ((decode s).getD []) ∧ k = (match decode s with | some _ => 0 | none => 20) ∧ n ≤ s.length ∧ total ((decode s).getD []) ≤ s.length := by
  obtain ⟨l, hl, ⟨rfl, hd⟩ | ⟨rfl, rfl, hd⟩⟩ := h
  · rw [hd]
    have := decode_total hd
    have := total_length l
    have := hl.1
    exact ⟨hl, rfl, by omega, by simpa⟩
  · rw [hd]
    obtain rfl := List.eq_nil_of_length_eq_zero hl.1
    exact ⟨hl, rfl, Nat.zero_le _, Nat.zero_le _⟩
theorem TupleEncodes_spec (he : Env w) {l : Option Addr} {lL lC : Nat} {ls : List Txt} (hl : StrsAt w l lL ls) (hb : ∀ x ∈ ls, x.length ≤ 140737488355328) (hL : lL ≤ 140737488355328) (s : Txt) :
    Calls Tryd.prog fn_law02_TupleEncodes #[.slice l lL lC, .string (S s)] w (fun e w' => e = .returned (.bool true) ∧ Still w w') := by
  refine law02_TupleEncodes_calls _ _ _ _ _ _ ?_
  refine (few_spec hl hb hL).mono ?_
  rintro _ w1 ⟨rfl, rfl⟩
  refine .inl ⟨_, rfl, bsel_of (fun _ => ?_) (fun hf => ?_)⟩
  · refine (awake_spec he).mono ?_
    rintro _ w2 ⟨rfl, hs2⟩
    exact .inl ⟨_, rfl, rfl, hs2⟩
  have hf : total ls ≤ 2000 := nd hf
  refine bsel_of (fun _ => ?_) (fun hs => ?_)
  · refine (awake_spec he).mono ?_
    rintro _ w2 ⟨rfl, hs2⟩
    exact .inl ⟨_, rfl, rfl, hs2⟩
  have hs : s.length ≤ 2000 := by have := of_decide_eq_false hs; omega
  refine (decode_spec he s (by omega)).mono ?_
  rintro _ w4 ⟨⟨p, n, C, k, rfl, hd⟩, hs4⟩
  refine .inl ⟨_, _, _, _, rfl, ?_⟩
  refine (refdecode_spec s (by omega)).mono ?_
  rintro _ w5 ⟨⟨p2, n2, C2, k2, rfl, hd2⟩, hs5⟩
  refine .inl ⟨_, _, _, _, rfl, ?_⟩
  have hst5 := hs4.trans hs5
  refine (awake_spec (he.still hst5)).mono ?_
  rintro _ w6 ⟨rfl, hs6⟩
  refine .inl ⟨_, rfl, bsel_of (fun _ => ?_) (fun h => absurd h (by decide))⟩
  have hst6 := hst5.trans hs6
  refine (encode_spec (he.still hst6) (hl.still hst6) (by omega)).mono ?_
  rintro _ w7 ⟨rfl, hs7⟩
  refine .inl ⟨_, rfl, ?_⟩
  have hst7 := hst6.trans hs7
  refine (refencode_spec (hl.still hst7) (by omega)).mono ?_
  rintro _ w8 ⟨rfl, hs8⟩
  have hst8 := hst7.trans hs8
  refine .inl ⟨_, rfl, bsel_of (fun _ => ?_) (fun h => absurd rfl (of_decide_eq_false h))⟩
  have h1 := (hd.still (hs5.trans (hs6.trans (hs7.trans hs8)))).out
  have h2 := (hd2.still (hs6.trans (hs7.trans hs8))).out
  refine (same_spec h1.1 h2.1 (by omega)).mono ?_
  rintro _ w9 ⟨rfl, hs9⟩
  refine .inl ⟨_, rfl, bsel_of (fun _ => ?_) (fun h => absurd rfl (of_decide_eq_false h))⟩
  rw [h1.2.1, h2.2.1, decide_eq_true rfl]
  exact ⟨rfl, hst8.trans hs9⟩
theorem TupleBack_spec (he : Env w) {l : Option Addr} {lL lC : Nat} {ls : List Txt} (hl : StrsAt w l lL ls) (hb : ∀ x ∈ ls, x.length ≤ 140737488355328) (hL : lL ≤ 140737488355328) (s : Txt) :
    Calls Tryd.prog fn_law02_TupleBack #[.slice l lL lC, .string (S s)] w (fun e w' => e = .returned (.bool true) ∧ Still w w') := by
  refine law02_TupleBack_calls _ _ _ _ _ _ ?_
  refine (awake_spec he).mono ?_
  rintro _ w1 ⟨rfl, hs1⟩
  refine .inl ⟨_, rfl, bsel_of (fun h => absurd h (by decide)) (fun _ => ?_)⟩
  refine (few_spec (hl.still hs1) hb hL).mono ?_
  rintro _ w2 ⟨rfl, rfl⟩
  refine .inl ⟨_, rfl, bsel_of (fun _ => ⟨rfl, hs1⟩) (fun hf => ?_)⟩
  have hf : total ls ≤ 2000 := nd hf
  refine bsel_of (fun _ => ⟨rfl, hs1⟩) (fun hs => ?_)
  have hs : s.length ≤ 2000 := by have := of_decide_eq_false hs; omega
  refine (encode_spec (he.still hs1) (hl.still hs1) (by omega)).mono ?_
  rintro _ w3 ⟨rfl, hs3⟩
  have hst3 := hs1.trans hs3
  refine .inl ⟨_, rfl, ?_⟩
  have hel := encode_len (few_nine (l := ls) (by omega))
  refine (decode_spec (he.still hst3) (encode ls) (by omega)).mono ?_
  rintro _ w4 ⟨⟨p, n, C, k, rfl, hd⟩, hs4⟩
  have hst4 := hst3.trans hs4
  refine .inl ⟨_, _, _, _, rfl, ?_⟩
  obtain ⟨h1, rfl, h3, _⟩ := hd.out
  rw [decode_encode (few_nine (l := ls) (by omega))] at h1
  rw [decode_encode (few_nine (l := ls) (by omega))]
  refine bsel_of (fun h => absurd h (show ¬ ((!decide ((0 : Int) = 0)) = true) by decide)) (fun _ => ?_)
  refine (same_spec (hl.still hst4) h1 (by have := total_length ls; have := hl.1; omega)).mono ?_
  rintro _ w5 ⟨rfl, hs5⟩
  have hst5 := hst4.trans hs5
  refine .inl ⟨_, rfl, bsel_of (fun h => ?_) (fun _ => ?_)⟩
  · rw [show decide (ls = (some ls).getD []) = true from decide_eq_true rfl] at h
    cases h
  refine (decode_spec (he.still hst5) s (by omega)).mono ?_
  rintro _ w6 ⟨⟨p2, n2, C2, k2, rfl, hd2⟩, hs6⟩
  have hst6 := hst5.trans hs6
  refine .inl ⟨_, _, _, _, rfl, bsel_of (fun _ => ?_) (fun h => absurd h (by decide))⟩
  obtain ⟨g1, rfl, g3, g4⟩ := hd2.out
  cases hds : decode s with
  | none =>
    rw [hds] at g1
    obtain rfl : 0 = n2 := g1.1
    exact bsel_of (fun _ => bsel_of (fun _ => ⟨rfl, hst6⟩) (fun h => absurd rfl (of_decide_eq_false h))) (fun h => absurd h (by decide))
  | some ls2 =>
    rw [hds] at g1 g4
    refine bsel_of (fun h => absurd h (show ¬ ((!decide ((0 : Int) = 0)) = true) by decide)) (fun _ => bsel_of (fun _ => ?_) (fun h => absurd rfl (of_decide_eq_false h)))
    refine (encode_spec (he.still hst6) (ls := ls2) g1 (by have : total ls2 ≤ s.length := g4; omega)).mono ?_
    rintro _ w7 ⟨rfl, hs7⟩
    refine .inl ⟨_, rfl, ?_, hst6.trans hs7⟩
    rw [encode_decode hds, decide_eq_true rfl]
theorem At.head {p : Option Addr} {n m : Nat} {cs : List Value} (h : At w p n cs) (hm : m ≤ n) : At w p m cs := fun h0 => h (by omega)
theorem TupleTwo_spec (he : Env w) {l : Option Addr} {lL lC : Nat} {ls : List Txt} (hl : StrsAt w l lL ls) (hb : ∀ x ∈ ls, x.length ≤ 140737488355328) (hL : lL ≤ 140737488355328)
    {m : Option Addr} {mL mC : Nat} {ms : List Txt} (hm : StrsAt w m mL ms) (hbm : ∀ x ∈ ms, x.length ≤ 140737488355328) (hM : mL ≤ 140737488355328) :
    Calls Tryd.prog fn_law02_TupleTwo #[.slice l lL lC, .slice m mL mC] w (fun e w' => e = .returned (.bool true) ∧ Still w w') := by
  refine law02_TupleTwo_calls _ _ _ _ _ _ _ _ ?_
  refine (awake_spec he).mono ?_
  rintro _ w1 ⟨rfl, hs1⟩
  refine .inl ⟨_, rfl, bsel_of (fun h => absurd h (by decide)) (fun _ => ?_)⟩
  refine (few_spec (hl.still hs1) hb hL).mono ?_
  rintro _ w2 ⟨rfl, rfl⟩
  refine .inl ⟨_, rfl, bsel_of (fun _ => ⟨rfl, hs1⟩) (fun hf => ?_)⟩
  have hf : total ls ≤ 2000 := nd hf
  refine (few_spec (hm.still hs1) hbm hM).mono ?_
  rintro _ w3 ⟨rfl, rfl⟩
  refine .inl ⟨_, rfl, bsel_of (fun _ => ⟨rfl, hs1⟩) (fun hg => ?_)⟩
  have hg : total ms ≤ 2000 := nd hg
  have hll := total_length ls
  have hml := total_length ms
  have el := hl.1
  have em := hm.1
  refine appK_push (B := w3.heap.size) (Owns.nil _ _ _ _) (Nat.le_refl _) (strs ls) (by rw [strs_length, Nat.mul_one]; omega) (strs_one ls) (fun h => (hl.still hs1).2 h) (by omega) (by omega) fun p' c' w4 ho4 hm4 _ => ?_
  have hs4 : Still w3 w4 := Mod.trans (Still.refl _) hm4 (fun _ h => h) (fun i _ e => by cases e)
  have hst4 := hs1.trans hs4
  refine appK_push ho4 hs4.size (strs ms) (by rw [strs_length, Nat.mul_one]; omega) (strs_one ms) (fun h => (hm.still hst4).2 h) (by omega) (by omega) fun p5 c5 w5 ho5 hm5 _ => ?_
  have hst5 : Still w w5 := Still.own hst4 ho4 hs1.size hm5
  refine (encode_spec (he.still hst5) (hl.still hst5) (by omega)).mono ?_
  rintro _ w6 ⟨rfl, hs6⟩
  refine .inl ⟨_, rfl, ?_⟩
  have hst6 := hst5.trans hs6
  refine (encode_spec (he.still hst6) (hm.still hst6) (by omega)).mono ?_
  rintro _ w7 ⟨rfl, hs7⟩
  have hst7 := hst6.trans hs7
  refine .inl ⟨_, rfl, bsel_of (fun _ => ?_) (fun h => absurd h (by decide))⟩
  rw [List.nil_append, ← strs_append] at ho5
  have htot : ∀ a b : List Txt, total (a ++ b) = total a + total b := by intro a b; simp [total]
  refine (encode_spec (he.still hst7) (StrsAt.of (ho5.still (hs6.trans hs7))) (by rw [htot]; omega)).mono ?_
  rintro _ w8 ⟨rfl, hs8⟩
  have hst8 := hst7.trans hs8
  have e1 := encode_len (few_nine (l := ls) (by omega))
  have e2 := encode_len (few_nine (l := ms) (by omega))
  refine .inl ⟨_, rfl, by omega, bsel_of (fun _ => ?_) (fun h => absurd (encode_append ls ms) (of_decide_eq_false h))⟩
  refine (same_spec (hl.still hst8) (hm.still hst8) (by omega)).mono ?_
  rintro _ w9 ⟨rfl, hs9⟩
  refine .inl ⟨_, rfl, ?_, hst8.trans hs9⟩
  have hi := encode_inj (few_nine (l := ls) (by omega)) (few_nine (l := ms) (by omega))
  rw [decide_eq_decide.2 hi, decide_eq_true rfl]
end Go.Proofs.YtkbhpfihgjcjpaaDoor
