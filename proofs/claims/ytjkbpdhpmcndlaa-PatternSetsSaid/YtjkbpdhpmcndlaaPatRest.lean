/- The patterns' program: Escape, Plain, Special, Remove; what any right program answers. Conditions: texts and patterns have fewer than a million bytes. -/
import Derived.Test.YtjkbpdhpmcndlaaPatMatch
namespace Go.Proofs.Ytjkbpdhpmcndlaa
open Go.RowKit Vc
variable {w : World}

theorem escape_snoc (l : List UInt8) (c : UInt8) : escape (l ++ [c]) = escape l ++ [92, c] := by simp [escape]
theorem two_src (w : World) (t : TypeId) (x y : Value) : 0 < 2 → ∃ a : Addr, (some (Addr.mk w.heap.size 0 none)) = some a ∧ ∀ (j : Nat) (u : Value), [x, y][j]? = some u → (w.alloc (.cells #[x, y] t)).cell? (a.add j) = some u := by
  refine fun _ => ⟨_, rfl, fun j u hu => ?_⟩
  rw [add_row, Nat.zero_add]
  exact (Row.new w t ⟨[x, y]⟩).cellv (by simpa using hu)
theorem escape_spec (s : List UInt8) (hs : s.length < 1000000) : Calls Try.prog fn_pattern_Escape #[.string (S s)] w (fun e w' => e = .returned (.string (S (escape s))) ∧ Still w w') := by
  refine pattern_Escape_calls _ _ _ ?_
  have e2 : IntKind.i64.wrap (2 * (s.length : Int)) = ((2 * s.length : Nat) : Int) := by rw [wrap_i64 (by omega) (by omega)]; omega
  unfold vc_pattern_Escape
  rw [e2, Int.toNat_natCast]
  have hmk : Owns (w.alloc (.cells (madeCells #[(.int .u8 0)] (2 * s.length * 1)) 5)) w.heap.size 5 1 (.slice (some ⟨w.heap.size, 0, none⟩) 0 (2 * s.length)) 0 (bc []) := by
    refine ⟨rfl, .inr ⟨w.heap.size, 2 * s.length, _, rfl, Nat.le_refl _, Row.new _ _ _, Nat.zero_le _, by unfold maxLen; omega, by simp [madeCells], by simp [bc]⟩⟩
  refine ⟨by decide, by omega, by omega, by omega, fun p L C x w1 => ∃ i : Nat, x = (i : Int) ∧ i ≤ s.length ∧ L = 2 * i ∧ Owns w1 w.heap.size 5 1 (.slice p L C) L (bc (escape (s.take i))) ∧ Still w w1, fun _ _ _ x _ => s.length - x.toNat,
    ⟨0, rfl, by omega, rfl, by simpa [escape] using hmk, (Mod.refl _ _).alloc _⟩, ?_⟩
  rintro p _ C _ _ w1 ⟨i, rfl, hi, rfl, ho, hm⟩
  have e1 : IntKind.i64.wrap ((i : Int) + 1) = ((i + 1 : Nat) : Int) := by rw [wrap_i64 (by omega) (by omega)]; omega
  refine bsel_of (fun hx => ?_) (fun hx => ?_)
  · have hx : i < s.length := by have := of_decide_eq_true hx; omega
    rw [e1, Int.toNat_natCast]
    refine ⟨by omega, s[i], List.getElem?_eq_getElem hx, _, [.int .u8 (((92 : UInt8).toNat : Nat) : Int), .int .u8 ((s[i].toNat : Nat) : Int)], (ho.alloc _).base0, rfl, ?_, two_src _ _ _ _, by omega, by omega, fun p2 c2 w2 ho2 hg2 hb2 => ?_⟩
    · intro u hu
      simp only [List.mem_cons, List.not_mem_nil, or_false] at hu
      rcases hu with rfl | rfl <;> rfl
    · refine ⟨⟨i + 1, rfl, hx, by omega, ?_, hm.pushed ho (Nat.le_refl _) hg2⟩, by dsimp only; omega⟩
      have h := ho.pushed hm.size ho2 hb2
      rw [List.take_add_one, List.getElem?_eq_getElem hx, Option.toList_some, escape_snoc, bc_append]
      exact h
  · have hx : i = s.length := by have := of_decide_eq_false hx; omega
    subst hx
    rw [List.take_length] at ho
    exact ⟨_, ho.bytes, rfl, hm⟩

theorem special_spec (p : List UInt8) : Calls Try.prog fn_pattern_Special #[.string (S p)] w (fun e w' => e = .returned (.bool (special p)) ∧ Still w w') := by
  refine pattern_Special_calls _ _ _ ?_
  refine ⟨fun q w1 => special q = special p ∧ Still w w1, fun q _ => q.length, ⟨rfl, Mod.refl _ _⟩, ?_⟩
  rintro q _ w1 ⟨hq, hm⟩
  rw [← hq]
  refine bsel_of (fun hx => ?_) (fun hx => ?_)
  · have hx : q ≠ [] := by simpa using hx
    obtain ⟨a, r, rfl⟩ := List.exists_cons_of_ne_nil hx
    refine ⟨by decide, a, rfl, (Try.strings_IndexByte (S [42, 63, 91]) _ _).mono ?_⟩
    rintro _ w2 ⟨rfl, rfl⟩
    rw [special_step]
    have hidx : Go.Lib.indexByte (S [42, 63, 91]).data.toList ((a.toNat : Int)).toNat.toUInt8 = Go.Lib.indexByte [42, 63, 91] a := by
      rw [Int.toNat_natCast]
      congr 1
      simp
    rw [hidx]
    have hsg : decide ((0 : Int) ≤ Go.Lib.indexByte [42, 63, 91] a) = isSign a := by
      unfold isSign
      by_cases h1 : a = 42
      · subst h1; decide
      · by_cases h2 : a = 63
        · subst h2; decide
        · by_cases h3 : a = 91
          · subst h3; decide
          · have g1 : ¬ (42 : UInt8) = a := fun e => h1 e.symm
            have g2 : ¬ (63 : UInt8) = a := fun e => h2 e.symm
            have g3 : ¬ (91 : UInt8) = a := fun e => h3 e.symm
            simp [Go.Lib.indexByte, h1, h2, h3, g1, g2, g3]
    refine .inl ⟨_, rfl, ?_⟩
    rw [hsg]
    refine bsel_of (fun h => ⟨by rw [h]; rfl, hm⟩) (fun h => ?_)
    rw [h, Bool.false_or]
    refine (single_spec hx).mono ?_
    rintro _ w3 ⟨rfl, rfl⟩
    refine .inl ⟨_, _, rfl, ⟨?_, hm.drew⟩, single_length hx⟩
    rfl
  · have hx : q = [] := by simpa using hx
    subst hx
    exact ⟨rfl, hm⟩

theorem bytesCells_eq (l : List UInt8) : Go.Lib.byteCells l = bc l := rfl
theorem plain_spec (p : List UInt8) (hp : p.length < 1000000) : Calls Try.prog fn_pattern_Plain #[.string (S p)] w (fun e w' => e = .returned (.string (S (plain p))) ∧ Still w w') := by
  refine pattern_Plain_calls _ _ _ ?_
  have hpl := plain_length p
  refine ⟨fun q w1 => ∃ l, l ++ plain q = plain p ∧ Bld w.heap.size w.heap.size (bc l) w1 ∧ Still w w1, fun q _ => q.length, ⟨[], rfl, Go.Lib.fresh_isBuilder 48 5 w, (Mod.refl _ _).alloc _⟩, ?_⟩
  rintro q _ w1 ⟨l, hl, hb, hm⟩
  refine bsel_of (fun hx => ?_) (fun hx => ?_)
  · have hx : q ≠ [] := by simpa using hx
    refine (single_spec hx).mono ?_
    rintro _ w2 ⟨rfl, rfl⟩
    have hll : l.length ≤ p.length := by
      have : (l ++ plain q).length = (plain p).length := by rw [hl]
      simp at this
      omega
    have hb' : Bld w.heap.size w.heap.size (bc l) w1.drew := hb
    refine .inl ⟨_, _, rfl, (writeByte_spec w.heap.size w.heap.size (bc l) _ w1.drew hb' (by rw [bc_length]; omega) hm.size).mono ?_⟩
    rintro _ w3 ⟨rfl, hb3, hm3⟩
    refine .inl ⟨_, rfl, rfl, ⟨l ++ [(single q).1], ?_, .inr ?_, ?_⟩, single_length hx⟩
    · rw [← hl, plain_step hx]
      simp
    · rw [bc_append]
      exact hb3
    · exact ⟨hm3.os.trans hm.os, hm3.tape.trans hm.tape, hm3.output.trans hm.output, Nat.le_trans hm.size hm3.size, fun k hk hn => (hm3.block k hk).trans (hm.block k hk hn)⟩
  · have hx : q = [] := by simpa using hx
    subst hx
    have hl : l = plain p := by simpa [plain] using hl
    subst hl
    refine (Try.Builder_String_any w.heap.size w.heap.size (plain p) w1 hb hm.size).mono ?_
    rintro _ w4 ⟨rfl, hm4⟩
    exact .inl ⟨_, rfl, rfl, ⟨hm4.os.trans hm.os, hm4.tape.trans hm.tape, hm4.output.trans hm.output, Nat.le_trans hm.size hm4.size, fun k hk hn => (hm4.block k hk).trans (hm.block k hk hn)⟩⟩

theorem remove_spec (s p : List UInt8) (atEnd most : Bool) (hs : s.length < 1000000) (hp : p.length < 1000000) : Calls Try.prog fn_pattern_Remove #[.string (S s), .string (S p), .bool atEnd, .bool most] w
    (fun e w' => e = .returned (.string (S (remove s p atEnd most))) ∧ Still w w') := by
  refine pattern_Remove_calls _ _ _ _ _ _ ?_
  have e0 : IntKind.i64.wrap ((s.length : Int) + 1) = ((s.length + 1 : Nat) : Int) := by rw [wrap_i64 (by omega) (by omega)]; omega
  unfold vc_pattern_Remove
  rw [e0]
  refine ⟨fun x w1 => ∃ k : Nat, x = (k : Int) ∧ k ≤ s.length + 1 ∧ removeL s p atEnd most (s.length + 1 - k) k = remove s p atEnd most ∧ Still w w1, fun x _ => s.length + 1 - x.toNat, ⟨0, rfl, by omega, rfl, Mod.refl _ _⟩, ?_⟩
  rintro _ _ w1 ⟨k, rfl, hk, hrem, hm⟩
  refine bsel_of (fun hx => ?_) (fun hx => ?_)
  · have hx : k < s.length + 1 := by have := of_decide_eq_true hx; omega
    have e1 : IntKind.i64.wrap ((k : Int) + 1) = ((k + 1 : Nat) : Int) := by rw [wrap_i64 (by omega) (by omega)]; omega
    have ek : IntKind.i64.wrap ((s.length : Int) - (k : Int)) = ((s.length - k : Nat) : Int) := by rw [wrap_i64 (by omega) (by omega)]; omega
    rw [show s.length + 1 - k = (s.length + 1 - (k + 1)) + 1 by omega, removeL] at hrem
    refine ⟨fun w' => cutOne s p atEnd (if most then s.length - k else k) = none ∧ Still w w', ⟨fun n w' => n = ((if most then s.length - k else k : Nat) : Int) ∧ Still w w', bsel_of (fun h => ⟨by rw [ek, h]; rfl, hm⟩) (fun h => ⟨by rw [h]; rfl, hm⟩), ?_⟩, ?_⟩
    · rintro _ _ w2 ⟨rfl, hm2⟩
      have hnle : (if most then s.length - k else k) ≤ s.length := by split <;> omega
      generalize (if most then s.length - k else k) = n at hrem hnle ⊢
      have en : IntKind.i64.wrap ((s.length : Int) - (n : Int)) = ((s.length - n : Nat) : Int) := by rw [wrap_i64 (by omega) (by omega)]; omega
      rw [en, Int.toNat_natCast, Int.toNat_natCast]
      refine ⟨by omega, by omega, by omega, by omega, fun x w' => x = (atEnd && pMatch p (s.drop (s.length - n))) ∧ Still w w', bsel_of (fun he => ?_) (fun he => ⟨by rw [he]; rfl, hm2.drew⟩), ?_⟩
      · refine (match_spec p _ hp (by simp; omega)).mono ?_
        rintro _ w3 ⟨rfl, hm3⟩
        exact .inl ⟨_, rfl, by rw [he]; rfl, Still.trans hm2.drew hm3⟩
      · rintro x _ w4 ⟨rfl, hm4⟩
        refine bsel_of (fun hx1 => ⟨?_, hm4⟩) (fun hx1 => bsel_of (fun hne => ?_) (fun hne => ?_))
        · rw [Bool.and_eq_true] at hx1
          have hc : cutOne s p atEnd n = some (s.take (s.length - n)) := by
            unfold cutOne
            rw [if_pos hx1.1, if_pos hx1.2]
          rw [hc] at hrem
          rw [← hrem]
        · have hne : atEnd = false := by simpa using hne
          refine ⟨by omega, by omega, (match_spec p _ hp (by simp; omega)).mono ?_⟩
          rintro _ w5 ⟨rfl, hm5⟩
          refine .inl ⟨_, rfl, bsel_of (fun hm1 => ⟨by omega, by omega, ?_, hm4.trans hm5⟩) (fun hm1 => ⟨?_, hm4.trans hm5⟩)⟩
          · have hc : cutOne s p atEnd n = some (s.drop n) := by
              unfold cutOne
              rw [if_neg (by rw [hne]; decide), if_pos hm1]
            rw [hc] at hrem
            rw [← hrem]
          · unfold cutOne
            rw [if_neg (by rw [hne]; decide), if_neg (by rw [hm1]; decide)]
        · have hne : atEnd = true := by simpa using hne
          rw [hne, Bool.true_and] at hx1
          refine ⟨?_, hm4⟩
          unfold cutOne
          rw [if_pos hne, if_neg (by rw [hx1]; decide)]
    · rintro _ w6 ⟨hc, hm6⟩
      rw [hc] at hrem
      exact ⟨⟨k + 1, e1, by omega, hrem, hm6⟩, by rw [e1]; dsimp only; omega⟩
  · have hx : k = s.length + 1 := by have := of_decide_eq_false hx; omega
    subst hx
    rw [Nat.sub_self, removeL] at hrem
    rw [← hrem]
    exact ⟨rfl, hm⟩

set_option maxRecDepth 100000 in
theorem awake_facts : pMatch [97, 91, 33, 98, 45, 100, 93, 42] [97, 101, 120, 121] = true ∧ pMatch [97, 91, 33, 98, 45, 100, 93, 42] [97, 98, 120, 121] = false ∧ remove [97, 46, 98, 46, 99] [46, 42] true true = [97] ∧ escape [97] = [92, 97] ∧ plain [92, 97] = [97] ∧ special [91] = true :=
  ⟨by kernel_rfl, by kernel_rfl, by kernel_rfl, by kernel_rfl, by kernel_rfl, by kernel_rfl⟩
theorem awake_spec : Calls Try.prog fn_law11_awake #[] w (fun e w' => e = .returned (.bool true) ∧ Still w w') := by
  refine law11_awake_calls _ _ ?_
  obtain ⟨f1, f2, f3, f4, f5, f6⟩ := awake_facts
  refine (match_spec _ _ (by decide) (by decide)).mono ?_
  rintro _ w1 ⟨rfl, h1⟩
  refine .inl ⟨_, rfl, bsel_of (fun _ => (match_spec _ _ (by decide) (by decide)).mono ?_) (fun h => by rw [f1] at h; cases h)⟩
  rintro _ w2 ⟨rfl, h2⟩
  refine .inl ⟨_, rfl, bsel_of (fun _ => (remove_spec _ _ _ _ (by decide) (by decide)).mono ?_) (fun h => by rw [f2] at h; cases h)⟩
  rintro _ w3 ⟨rfl, h3⟩
  refine .inl ⟨_, rfl, bsel_of (fun _ => (escape_spec _ (by decide)).mono ?_) (fun h => by rw [f3] at h; cases h)⟩
  rintro _ w4 ⟨rfl, h4⟩
  refine .inl ⟨_, rfl, bsel_of (fun _ => (plain_spec _ (by decide)).mono ?_) (fun h => by rw [f4] at h; cases h)⟩
  rintro _ w5 ⟨rfl, h5⟩
  refine .inl ⟨_, rfl, bsel_of (fun _ => (special_spec _).mono ?_) (fun h => by rw [f5] at h; cases h)⟩
  rintro _ w6 ⟨rfl, h6⟩
  exact .inl ⟨_, rfl, by rw [f6], ((((h1.trans h2).trans h3).trans h4).trans h5).trans h6⟩
end Go.Proofs.Ytjkbpdhpmcndlaa
