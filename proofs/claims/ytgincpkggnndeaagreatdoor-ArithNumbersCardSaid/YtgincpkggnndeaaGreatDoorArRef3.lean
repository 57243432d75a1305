/- Expressions of numbers: the reference's arithmetic, its digits, its runs and variables. Conditions: as each theorem names them. -/
import Derived.Test.YtgincpkggnndeaaGreatDoorArRef2
import Derived.Test.YtgincpkggnndeaaGreatDoorVarRefB
namespace Go.Proofs.YtgincpkggnndeaaGreatDoor
open Go.RowKit Vc
variable {w : World}

theorem sh_eq (b : Int) : bits .and .i64 b 63 = bits .and .u64 (IntKind.u64.wrap b) 63 := by
  have h : 0 ≤ IntKind.u64.wrap b ∧ IntKind.u64.wrap b < 18446744073709551616 := by
    simp only [IntKind.wrap, IntKind.signed, IntKind.bits]
    simp
    omega
  rw [bits_and_u64 h.1 h.2 (by decide) (by decide)]
  have h2 : (BitVec.ofInt IntKind.i64.bits 63).toNat = 63 := by decide
  have h1 : (BitVec.ofInt IntKind.i64.bits b).toNat = (IntKind.u64.wrap b).toNat := by
    simp only [IntKind.wrap, IntKind.signed, IntKind.bits, BitVec.toNat_ofInt]
    simp
  simp only [bits, BitVec.toNat_and, h1, h2]
  have h3 : (IntKind.u64.wrap b).toNat &&& 63 ≤ 63 := Nat.and_le_right
  exact wrap_i64 (by omega) (by omega)
/-- An operator, without the sign that it sets. -/
def norm (op : Txt) : Txt := if op ∈ asgOps then op.dropLast else op
def RAns (r : Pr Int) (e : Ending) : Prop := match r with
  | .ok z => e = .returned (.tuple #[.int .i64 z, .int .i64 0])
  | .bad k => e = .returned (.tuple #[.int .i64 0, .int .i64 (k : Int)])
theorem reck_ok {o : Txt} {a b : Int} (h : ¬ (o = [47] ∨ o = [37])) : reck o a b = .ok (reckV o a b) := by
  unfold reck
  rw [if_neg (fun e => h e.2)]
theorem or_join {op A B : Txt} {w : World} : bsel (decide (op = A)) ((decide (op = A)) = decide (op = A ∨ op = B) ∧ w = w) ((decide (op = B)) = decide (op = A ∨ op = B) ∧ w = w) :=
  bsel_of (fun h => ⟨by rw [h, decide_eq_true (.inl (of_decide_eq_true h))], rfl⟩) (fun h => ⟨decide_eq_decide.2 ⟨.inr, fun e => e.resolve_left (of_decide_eq_false h)⟩, rfl⟩)
set_option maxHeartbeats 4000000 in
theorem rtwo_spec {op : Txt} (hop : op ∈ binOps ∨ (op ∈ asgOps ∧ op ≠ [61])) (a b : Int) : Calls Tryz.prog fn_ref13_Two #[.string (S op), .int .i64 a, .int .i64 b] w (fun e w' => RAns (reck (norm op) a b) e ∧ w' = w) := by
  refine ref13_Two_calls _ _ _ _ _ ?_
  have ok : ∀ {w' : World} {o : Txt} {z : Int}, norm op = o → ¬ (o = [47] ∨ o = [37]) → reckV o a b = z → w' = w → RAns (reck (norm op) a b) (.returned (.tuple #[.int .i64 z, .int .i64 0])) ∧ w' = w := by
    intro w' o z h1 h2 h3 h4
    rw [h1, reck_ok h2, h3]
    exact ⟨rfl, h4⟩
  refine ⟨fun w10 => w10 = w ∧ op = [62, 61], ⟨fun x w1 => x = decide (op = [43] ∨ op = [43, 61]) ∧ w1 = w, or_join, ?_⟩, ?_⟩
  rotate_left
  · rintro _ w10 ⟨rfl, rfl⟩
    refine (rtruth_spec _).mono ?_
    rintro _ w11 ⟨rfl, rfl⟩
    exact .inl ⟨_, rfl, ok rfl (by decide) rfl rfl⟩
  rintro _ _ w1 ⟨rfl, rfl⟩
  refine bsel_of (fun h => ?_) (fun h1 => ?_)
  · rcases of_decide_eq_true h with h | h <;> subst h
    · exact ok rfl (by decide) rfl rfl
    · exact ok (o := [43]) (by decide) (by decide) rfl rfl
  refine ⟨fun x w2 => x = decide (op = [45] ∨ op = [45, 61]) ∧ w2 = w1, or_join, ?_⟩
  rintro _ _ w2 ⟨rfl, rfl⟩
  refine bsel_of (fun h => ?_) (fun h2 => ?_)
  · rcases of_decide_eq_true h with h | h <;> subst h
    · exact ok rfl (by decide) rfl rfl
    · exact ok (o := [45]) (by decide) (by decide) rfl rfl
  refine ⟨fun x w3 => x = decide (op = [42] ∨ op = [42, 61]) ∧ w3 = w2, or_join, ?_⟩
  rintro _ _ w3 ⟨rfl, rfl⟩
  refine bsel_of (fun h => ?_) (fun h3 => ?_)
  · rcases of_decide_eq_true h with h | h <;> subst h
    · exact ok rfl (by decide) rfl rfl
    · exact ok (o := [42]) (by decide) (by decide) rfl rfl
  refine ⟨fun x w4 => x = decide (op = [47] ∨ op = [37] ∨ op = [47, 61] ∨ op = [37, 61]) ∧ w4 = w3, ?_, ?_⟩
  · refine bsel_of (fun h => ⟨by rw [h, decide_eq_true (.inl (of_decide_eq_true h))], rfl⟩) (fun h1 => bsel_of (fun h => ⟨by rw [h, decide_eq_true (.inr (.inl (of_decide_eq_true h)))], rfl⟩) (fun h2 => bsel_of (fun h => ⟨by rw [h, decide_eq_true (.inr (.inr (.inl (of_decide_eq_true h))))], rfl⟩) (fun h3 => ⟨?_, rfl⟩)))
    exact decide_eq_decide.2 ⟨fun e => .inr (.inr (.inr e)), fun e => ((e.resolve_left (of_decide_eq_false h1)).resolve_left (of_decide_eq_false h2)).resolve_left (of_decide_eq_false h3)⟩
  rintro _ _ w4 ⟨rfl, rfl⟩
  refine bsel_of (fun h => ?_) (fun h4 => ?_)
  · have h := of_decide_eq_true h
    have hn : norm op = [47] ∧ op[0]? = some 47 ∨ norm op = [37] ∧ op[0]? = some 37 := by
      rcases h with h | h | h | h <;> subst h
      · exact .inl ⟨by decide, rfl⟩
      · exact .inr ⟨by decide, rfl⟩
      · exact .inl ⟨by decide, rfl⟩
      · exact .inr ⟨by decide, rfl⟩
    refine bsel_of (fun hb => ?_) (fun hb => ?_)
    · have hb := of_decide_eq_true hb
      refine ⟨?_, rfl⟩
      unfold reck
      rw [if_pos ⟨hb, hn.elim (fun h => .inl h.1) (fun h => .inr h.1)⟩]
      rfl
    have hb := of_decide_eq_false hb
    have hr : reck (norm op) a b = .ok (reckV (norm op) a b) := by
      unfold reck
      rw [if_neg (fun e => hb e.1)]
    rw [hr]
    rcases hn with ⟨hn, h0⟩ | ⟨hn, h0⟩
    · refine ⟨by decide, 47, h0, bsel_of (fun _ => ⟨hb, ?_, rfl⟩) (fun h => absurd h (by decide))⟩
      rw [hn]
      rfl
    · refine ⟨by decide, 37, h0, bsel_of (fun h => absurd h (by decide)) (fun _ => ⟨hb, ?_, rfl⟩)⟩
      rw [hn]
      rfl
  have hsh : 0 ≤ bits .and .i64 b 63 := by rw [sh_eq]; exact sh_nonneg b
  refine bsel_of (fun h => ?_) (fun h5 => ?_)
  · obtain rfl := of_decide_eq_true h
    refine ⟨hsh, ok rfl (by decide) ?_ rfl⟩
    rw [sh_eq]
    rfl
  refine bsel_of (fun h => ?_) (fun h6 => ?_)
  · obtain rfl := of_decide_eq_true h
    refine ⟨hsh, ok rfl (by decide) ?_ rfl⟩
    rw [sh_eq]
    rfl
  refine bsel_of (fun h => by obtain rfl := of_decide_eq_true h; exact ok rfl (by decide) rfl rfl) (fun h7 => ?_)
  refine bsel_of (fun h => by obtain rfl := of_decide_eq_true h; exact ok rfl (by decide) rfl rfl) (fun h8 => ?_)
  refine bsel_of (fun h => by obtain rfl := of_decide_eq_true h; exact ok rfl (by decide) rfl rfl) (fun h9 => ?_)
  refine bsel_of (fun h => ?_) (fun h10 => ?_)
  · obtain rfl := of_decide_eq_true h
    refine (rtruth_spec _).mono ?_
    rintro _ w11 ⟨rfl, rfl⟩
    exact .inl ⟨_, rfl, ok rfl (by decide) rfl rfl⟩
  refine bsel_of (fun h => ?_) (fun h11 => ?_)
  · obtain rfl := of_decide_eq_true h
    refine (rtruth_spec _).mono ?_
    rintro _ w11 ⟨rfl, rfl⟩
    exact .inl ⟨_, rfl, ok rfl (by decide) rfl rfl⟩
  refine bsel_of (fun h => ?_) (fun h12 => ?_)
  · obtain rfl := of_decide_eq_true h
    refine (rtruth_spec _).mono ?_
    rintro _ w11 ⟨rfl, rfl⟩
    exact .inl ⟨_, rfl, ok rfl (by decide) rfl rfl⟩
  refine bsel_of (fun h => ?_) (fun h13 => ?_)
  · obtain rfl := of_decide_eq_true h
    refine (rtruth_spec _).mono ?_
    rintro _ w11 ⟨rfl, rfl⟩
    exact .inl ⟨_, rfl, ok rfl (by decide) rfl rfl⟩
  refine bsel_of (fun h => ?_) (fun h14 => ⟨rfl, ?_⟩)
  · obtain rfl := of_decide_eq_true h
    refine (rtruth_spec _).mono ?_
    rintro _ w11 ⟨rfl, rfl⟩
    exact .inl ⟨_, rfl, ok rfl (by decide) rfl rfl⟩
  simp only [decide_eq_false_iff_not, not_or] at h1 h2 h3 h4 h5 h6 h7 h8 h9 h10 h11 h12 h13 h14
  have key : op ∈ [[124], [94], [38], [61, 61], [33, 61], [60], [60, 61], [62], [62, 61], [60, 60], [62, 62], [43], [45], [42], [47], [37], [43, 61], [45, 61], [42, 61], [47, 61], [37, 61]] := by
    rcases hop with h | ⟨h, h'⟩
    · have : ∀ o ∈ binOps, o ∈ [[124], [94], [38], [61, 61], [33, 61], [60], [60, 61], [62], [62, 61], [60, 60], [62, 62], [43], [45], [42], [47], [37], [43, 61], [45, 61], [42, 61], [47, 61], [37, 61]] := by decide
      exact this op h
    · have : ∀ o ∈ asgOps, o ≠ [61] → o ∈ [[124], [94], [38], [61, 61], [33, 61], [60], [60, 61], [62], [62, 61], [60, 60], [62, 62], [43], [45], [42], [47], [37], [43, 61], [45, 61], [42, 61], [47, 61], [37, 61]] := by decide
      exact this op h h'
  simp only [List.mem_cons, List.not_mem_nil, or_false] at key
  simp_all
theorem rtail_spec : ∀ (k : Nat) (n : Int), n.natAbs = k → I64 n → ∀ w : World, Calls Tryz.prog fn_ref13_tail #[.int .i64 n] w (fun e w' => e = .returned (.string (S (dec n.natAbs))) ∧ Still w w') := by
  intro k
  induction k using Nat.strongRecOn with
  | _ k ih =>
    intro n hk hn w
    unfold I64 at hn
    refine ref13_tail_calls _ _ _ ?_
    have hm : Int.tmod n 10 = if n < 0 then -((n.natAbs % 10 : Nat) : Int) else ((n.natAbs % 10 : Nat) : Int) := by
      split
      · have e : n = -((n.natAbs : Nat) : Int) := by omega
        have : Int.tmod (-((n.natAbs : Nat) : Int)) 10 = -((n.natAbs % 10 : Nat) : Int) := by rw [Int.neg_tmod]; exact congrArg Neg.neg (Int.ofNat_tmod n.natAbs 10).symm
        rw [← e] at this
        exact this
      · have e : n = ((n.natAbs : Nat) : Int) := by omega
        have : Int.tmod ((n.natAbs : Nat) : Int) 10 = ((n.natAbs % 10 : Nat) : Int) := (Int.ofNat_tmod n.natAbs 10).symm
        rw [← e] at this
        exact this
    have hd : Int.tdiv n 10 = if n < 0 then -((n.natAbs / 10 : Nat) : Int) else ((n.natAbs / 10 : Nat) : Int) := by
      split
      · have e : n = -((n.natAbs : Nat) : Int) := by omega
        have : Int.tdiv (-((n.natAbs : Nat) : Int)) 10 = -((n.natAbs / 10 : Nat) : Int) := by rw [Int.neg_tdiv]; exact congrArg Neg.neg (Int.ofNat_tdiv n.natAbs 10).symm
        rw [← e] at this
        exact this
      · have e : n = ((n.natAbs : Nat) : Int) := by omega
        have : Int.tdiv ((n.natAbs : Nat) : Int) 10 = ((n.natAbs / 10 : Nat) : Int) := (Int.ofNat_tdiv n.natAbs 10).symm
        rw [← e] at this
        exact this
    have hw : IntKind.i64.wrap (Int.tdiv n 10) = Int.tdiv n 10 := by
      rw [hd]
      split <;> exact wrap_i64 (by omega) (by omega)
    have u8 : ∀ d : Nat, d < 10 → IntKind.u8.wrap (48 + (d : Int)) = ((UInt8.ofNat (48 + d)).toNat : Int) := by decide
    have fin : ∀ {v : Int} {w1 : World} {R' : World → Prop}, v = ((UInt8.ofNat (48 + n.natAbs % 10)).toNat : Int) → (∀ w2, Still w w2 → (∃ bs, BytesAt (fun a v => w2.cell? a = some v) (some ⟨w.heap.size, 0, none⟩) 1 bs ∧ bs = [UInt8.ofNat (48 + n.natAbs % 10)]) → R' w2) → letW (w.alloc (.cells #[.int .u8 v] 5)) R' := by
      intro v w1 R' hv h
      refine allocK fun w2 hr hs hz => ?_
      rw [hv] at hr
      exact h w2 hs ⟨_, Row.bytes (l := [UInt8.ofNat (48 + n.natAbs % 10)]) (n := 1) hr rfl, rfl⟩
    have fin2 : ∀ w2, Still w w2 → (10 : Int) ≠ 0 ∧ bsel (decide (IntKind.i64.wrap (Int.tdiv n 10) = 0)) (Ending.returned (.string (S [UInt8.ofNat (48 + n.natAbs % 10)])) = .returned (.string (S (dec n.natAbs))) ∧ Still w w2) ((10 : Int) ≠ 0 ∧ Calls Tryz.prog fn_ref13_tail #[.int .i64 (IntKind.i64.wrap (Int.tdiv n 10))] w2 (fun e w3 => (∃ r : List UInt8, e = .returned (.string (S r)) ∧ r.length + [UInt8.ofNat (48 + n.natAbs % 10)].length ≤ 9223372036854775807 ∧ (Ending.returned (.string (S (r ++ [UInt8.ofNat (48 + n.natAbs % 10)]))) = .returned (.string (S (dec n.natAbs))) ∧ Still w w3)) ∨ ∃ ch, e = .panicked ch ∧ (Ending.panicked ch = .returned (.string (S (dec n.natAbs))) ∧ Still w w3))) := by
      intro w2 hs
      refine ⟨by decide, bsel_of (fun h => ⟨?_, hs⟩) (fun h => ⟨by decide, ?_⟩)⟩
      · have h := of_decide_eq_true h
        rw [hw, hd] at h
        have : n.natAbs < 10 := by split at h <;> omega
        rw [dec_small this, Nat.mod_eq_of_lt this]
      · have h := of_decide_eq_false h
        rw [hw] at h ⊢
        have e1 : (Int.tdiv n 10).natAbs = n.natAbs / 10 := by rw [hd]; split <;> omega
        have h10 : ¬ n.natAbs < 10 := by
          intro hlt
          rw [hd] at h
          have : n.natAbs / 10 = 0 := Nat.div_eq_of_lt hlt
          rw [this] at h
          split at h <;> exact h (by decide)
        refine (ih (n.natAbs / 10) (by omega) (Int.tdiv n 10) e1 (by unfold I64; rw [hd]; split <;> constructor <;> omega) w2).mono ?_
        rintro _ w3 ⟨rfl, hs3⟩
        refine .inl ⟨_, rfl, ?_, ?_, hs.trans hs3⟩
        · have hl := Lib.itoa_length_le (((Int.tdiv n 10).natAbs : Nat) : Int) (by omega) (by omega)
          have : Lib.itoa (((Int.tdiv n 10).natAbs : Nat) : Int) = dec (Int.tdiv n 10).natAbs := by unfold Lib.itoa; rw [if_neg (by omega), Int.toNat_natCast]
          rw [this] at hl
          simp only [List.length_cons, List.length_nil]
          omega
        · rw [e1, dec_step h10]
    refine ⟨by decide, bsel_of (fun h => ?_) (fun h => ?_)⟩
    · have h := of_decide_eq_true h
      have hneg : n < 0 := by rw [hm] at h; split at h <;> omega
      have hv : IntKind.u8.wrap (IntKind.i64.wrap (48 + IntKind.i64.wrap (0 - Int.tmod n 10))) = ((UInt8.ofNat (48 + n.natAbs % 10)).toNat : Int) := by
        rw [hm, if_pos hneg, wrap_i64 (n := 0 - -((n.natAbs % 10 : Nat) : Int)) (by omega) (by omega), wrap_i64 (by omega) (by omega), ← u8 _ (by omega)]
        congr 1
        omega
      refine fin (w1 := w) hv fun w2 hs2 ⟨bs, hb, he⟩ => ?_
      subst he
      exact ⟨_, hb, fin2 w2 hs2⟩
    · have h := of_decide_eq_false h
      have hv : IntKind.u8.wrap (IntKind.i64.wrap (48 + Int.tmod n 10)) = ((UInt8.ofNat (48 + n.natAbs % 10)).toNat : Int) := by
        have e2 : Int.tmod n 10 = ((n.natAbs % 10 : Nat) : Int) := by rw [hm] at h ⊢; split <;> (split at h <;> omega)
        rw [e2, wrap_i64 (by omega) (by omega), ← u8 _ (by omega)]
      refine fin (w1 := w) hv fun w2 hs2 ⟨bs, hb, he⟩ => ?_
      subst he
      exact ⟨_, hb, fin2 w2 hs2⟩
theorem rdigits_spec (n : Int) (hn : I64 n) : Calls Tryz.prog fn_ref13_Digits #[.int .i64 n] w (fun e w' => e = .returned (.string (S (Lib.itoa n))) ∧ Still w w') := by
  refine ref13_Digits_calls _ _ _ ?_
  refine bsel_of (fun h => ?_) (fun h => ?_)
  · have h := of_decide_eq_true h
    refine (rtail_spec _ n rfl hn w).mono ?_
    rintro _ w1 ⟨rfl, hs⟩
    have hl := Lib.itoa_length_le n hn.1 (by have := hn.2; omega)
    have e : Lib.itoa n = 45 :: dec n.natAbs := by unfold Lib.itoa; rw [if_pos h]
    rw [e] at hl ⊢
    simp only [List.length_cons] at hl
    exact .inl ⟨_, rfl, by simp only [List.length_cons, List.length_nil]; omega, rfl, hs⟩
  · have h := of_decide_eq_false h
    refine (rtail_spec _ n rfl hn w).mono ?_
    rintro _ w1 ⟨rfl, hs⟩
    refine .inl ⟨_, rfl, ?_, hs⟩
    unfold Lib.itoa
    rw [if_neg h]
    have : n.natAbs = n.toNat := by omega
    rw [this]
theorem rvalue_spec (s : Txt) (hs : s.length ≤ 140737488355328) : Calls Tryz.prog fn_ref13_Value #[.string (S s)] w (fun e w' => (∃ (m : Int) (ok : Bool), e = .returned (.tuple #[.int .i64 m, .bool ok]) ∧ I64 m ∧ (match worthV s with
    | some n => m = n ∧ ok = true
    | none => ok = false)) ∧ w' = w) := by
  refine ref13_Value_calls _ _ _ ?_
  cases s with
  | nil => exact bsel_of (fun _ => ⟨⟨_, _, rfl, by decide, rfl, rfl⟩, rfl⟩) (fun h => absurd rfl (of_decide_eq_false h))
  | cons c r =>
    simp only [List.length_cons] at hs
    refine bsel_of (fun h => absurd (of_decide_eq_true h) (by simp)) (fun _ => ⟨by decide, c, rfl, bsel_of (fun h => ?_) (fun h => ?_)⟩)
    · have h : c = 45 := (byte_eq (b := 45)).1 (of_decide_eq_true h)
      refine ⟨by decide, by simp only [List.length_cons]; omega, (rnumber_spec r (by omega)).mono ?_⟩
      rintro _ w1 ⟨⟨m, ok, rfl, hi, h0, hm⟩, rfl⟩
      have hw : worthV (c :: r) = (numV r).map fun n => -n := by simp only [worthV]; rw [if_pos h]
      have e : IntKind.i64.wrap (0 - m) = -m := by have := hi.2; rw [wrap_i64 (by omega) (by omega)]; omega
      rw [hw]
      refine .inl ⟨_, _, rfl, ⟨_, _, rfl, wrap_in _, ?_⟩, rfl⟩
      cases hn : numV r with
      | none => rw [hn] at hm; exact hm
      | some n =>
        rw [hn] at hm
        exact ⟨by rw [e, hm.1], hm.2⟩
    · have h : ¬ c = 45 := fun e => of_decide_eq_false h ((byte_eq (b := 45)).2 e)
      refine (rnumber_spec (c :: r) (by simp only [List.length_cons]; omega)).mono ?_
      rintro _ w1 ⟨⟨m, ok, rfl, hi, h0, hm⟩, rfl⟩
      have hw : worthV (c :: r) = numV (c :: r) := by simp only [worthV]; rw [if_neg h]
      rw [hw]
      exact .inl ⟨_, _, rfl, ⟨_, _, rfl, hi, hm⟩, rfl⟩
theorem rrun_spec (s : Txt) (hs : s.length ≤ 140737488355328) : Calls Tryz.prog fn_ref13_run #[.string (S s)] w (fun e w' => e = .returned (.int .i64 (wordN s : Int)) ∧ w' = w) := by
  refine ref13_run_calls _ _ _ ?_
  have hle := wordN_le s
  refine ⟨fun n w1 => ∃ k : Nat, n = (k : Int) ∧ k ≤ s.length ∧ wordN s = k + wordN (s.drop k) ∧ w1 = w, fun n _ => s.length - n.toNat, ⟨0, rfl, Nat.zero_le _, by simp, rfl⟩, ?_⟩
  rintro _ _ w1 ⟨k, rfl, hk, hn, rfl⟩
  have e1 : IntKind.i64.wrap ((k : Int) + 1) = ((k + 1 : Nat) : Int) := by rw [wrap_i64 (by omega) (by omega)]; omega
  refine bsel_of (fun hx => ?_) (fun hx => ?_)
  · have hx : k < s.length := by have := of_decide_eq_true hx; omega
    have hd : s.drop k = s[k] :: s.drop (k + 1) := List.drop_eq_getElem_cons hx
    have hg : s[Int.toNat (k : Int)]? = some s[k] := by rw [Int.toNat_natCast]; exact getD_some hx
    rw [e1]
    rw [hd] at hn
    have h1 : (s.drop (Int.toNat (k : Int))).take (Int.toNat ((k + 1 : Nat) : Int) - Int.toNat (k : Int)) = [s[k]] := by
      rw [Int.toNat_natCast, Int.toNat_natCast, hd, Nat.add_sub_cancel_left]
      rfl
    have hw : ∀ c : UInt8, ∀ r, wordN (c :: r) = if isWordC c = true then 1 + wordN r else 0 := by
      intro c r
      unfold wordN
      rw [List.takeWhile_cons]
      split
      · rw [List.length_cons]; omega
      · rfl
    rw [hw] at hn
    refine ⟨by omega, by omega, by omega, ?_⟩
    rw [h1]
    generalize s[k] = c at *
    refine (rname_spec [c] (by simp)).mono ?_
    rintro _ w2 ⟨rfl, rfl⟩
    have hnm : nameN true [c] = if letter c = true then 1 else 0 := by
      simp only [nameN]
      simp
    have hdg : digit c = (decide (48 ≤ (c.toNat : Int)) && decide ((c.toNat : Int) ≤ 57)) := rfl
    have go : isWordC c = true → (∃ k1 : Nat, ((k + 1 : Nat) : Int) = (k1 : Int) ∧ k1 ≤ s.length ∧ wordN s = k1 + wordN (s.drop k1) ∧ w2 = w2) ∧ s.length - Int.toNat ((k + 1 : Nat) : Int) < s.length - Int.toNat (k : Int) := by
      intro h
      rw [if_pos h] at hn
      exact ⟨⟨k + 1, rfl, hx, by omega, rfl⟩, by omega⟩
    have stop : isWordC c = false → (k : Int) = (wordN s : Int) := by
      intro h
      rw [if_neg (by rw [h]; decide)] at hn
      omega
    refine .inl ⟨_, rfl, bsel_of (fun h => ?_) (fun h => ?_)⟩
    · refine go ?_
      have h := of_decide_eq_true h
      rw [hnm] at h
      unfold isWordC
      split at h
      · rename_i h2; rw [h2]; rfl
      · omega
    · have hl : letter c = false := by
        have h := of_decide_eq_false h
        rw [hnm] at h
        cases hlc : letter c with
        | false => rfl
        | true => rw [hlc] at h; exact absurd (by decide) h
      refine ⟨by omega, c, hg, bsel_of (fun h2 => ⟨by omega, c, hg, bsel_of (fun h3 => ?_) (fun h3 => ⟨?_, rfl⟩)⟩) (fun h2 => ⟨?_, rfl⟩)⟩
      · refine go ?_
        unfold isWordC
        rw [hl, hdg, h2, h3]
        rfl
      · rw [stop]
        unfold isWordC
        rw [hl, hdg, h2, h3]
        rfl
      · rw [stop]
        unfold isWordC
        rw [hl, hdg, h2]
        rfl
  · have hx : k = s.length := by have := of_decide_eq_false hx; omega
    subst hx
    rw [hn, List.drop_length]
    exact ⟨rfl, rfl⟩
end Go.Proofs.YtgincpkggnndeaaGreatDoor
