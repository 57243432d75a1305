/- strings.ReplaceAll of one byte by a text. Conditions: the text has at most a million bytes, the new one from 1 to 100. -/
import Derived.Test.YtckcdbkggaoomaaDoorBuild
import Derived.Test.YtckcdbkggaoomaaDoorShelf
import Derived.Lib.IndexLaws
namespace Go.Proofs.YtckcdbkggaoomaaDoor
open Go.RowKit Vc
variable {w : World}

def replB (c : UInt8) (nw s : List UInt8) : List UInt8 := s.flatMap fun b => if b = c then nw else [b]
theorem replB_append (c : UInt8) (nw s t : List UInt8) : replB c nw (s ++ t) = replB c nw s ++ replB c nw t := by simp [replB]
theorem replB_none {c : UInt8} {nw : List UInt8} : ∀ {s : List UInt8}, s.count c = 0 → replB c nw s = s
  | [], _ => rfl
  | b :: s, h => by
    have hb : b ≠ c := by rintro rfl; simp at h
    rw [List.count_cons_of_ne hb] at h
    have := replB_none (nw := nw) h
    simp only [replB, List.flatMap_cons, if_neg hb] at this ⊢
    rw [this]
    rfl
theorem replB_length {c : UInt8} {nw : List UInt8} : ∀ s : List UInt8, (replB c nw s).length + s.count c = s.length + nw.length * s.count c
  | [] => by simp [replB]
  | b :: s => by
    have ih := replB_length (c := c) (nw := nw) s
    have e : replB c nw (b :: s) = (if b = c then nw else [b]) ++ replB c nw s := rfl
    by_cases hb : b = c
    · subst hb
      rw [e, if_pos rfl, List.length_append, List.count_cons_self, List.length_cons, Nat.mul_add]
      omega
    · rw [e, if_neg hb, List.length_append, List.count_cons_of_ne hb, List.length_cons]
      simp only [List.length_cons, List.length_nil]
      omega
theorem count_le {c : UInt8} (s : List UInt8) : s.count c ≤ s.length := List.count_le_length
/-- Where the byte is that comes next. -/
theorem next_idx {c : UInt8} : ∀ {s : List UInt8}, 0 < s.count c → ∃ k : Nat, Lib.indexByte s c = (k : Int) ∧ k < s.length ∧ (s.take k).count c = 0 ∧ s[k]? = some c
  | b :: s, h => by
    by_cases hb : b = c
    · subst hb
      exact ⟨0, by simp [Lib.indexByte], by simp, by simp, rfl⟩
    · rw [List.count_cons_of_ne hb] at h
      obtain ⟨k, h1, h2, h3, h4⟩ := next_idx h
      refine ⟨k + 1, ?_, by simp; omega, by rw [List.take_succ_cons, List.count_cons_of_ne hb]; exact h3, by simpa using h4⟩
      simp only [Lib.indexByte, h1]
      have : (b == c) = false := by simpa using hb
      rw [this]
      have h2 : (((k : Nat) : Int) == -1) = false := by
        rw [beq_eq_false_iff_ne]
        omega
      simp [h2]
theorem liesB_own : LiesB 44 2 0 := by unfold LiesB; kernel_rfl
theorem replace_spec (c : UInt8) (nw s : List UInt8) (hs : s.length ≤ 1000000) (h0 : nw ≠ []) (h1 : nw.length ≤ 100) (hne : nw ≠ [c]) :
    Calls Tryd.prog fn_strings_Replace #[.string (S s), .string (S [c]), .string (S nw), .int .i64 (-1)] w (fun e w' => e = .returned (.string (S (replB c nw s))) ∧ Still w w') := by
  refine strings_Replace_calls _ _ _ _ _ _ ?_
  have hcl := count_le (c := c) s
  have hrl := replB_length (c := c) (nw := nw) s
  have hnw : 0 < nw.length := List.length_pos_iff.2 h0
  refine bsel_of (fun h => absurd (of_decide_eq_true h).symm hne) (fun _ => bsel_of (fun h => by simp at h) (fun _ => ?_))
  refine ⟨fun m w1 => m = (s.count c : Int) ∧ 0 < s.count c ∧ w1 = w, (Tryd.strings_Count_one (S s) c w).mono ?_, ?_⟩
  · rintro _ w1 ⟨rfl, rfl⟩
    refine .inl ⟨_, rfl, bsel_of (fun h => ?_) (fun h => ?_)⟩
    · have h : s.count c = 0 := by have := of_decide_eq_true h; exact Int.ofNat_eq_zero.1 this
      exact ⟨by rw [replB_none h], Mod.refl _ _⟩
    · have h : s.count c ≠ 0 := by
        have := of_decide_eq_false h
        exact fun e => this (by show ((Lib.countByte s c : Nat) : Int) = 0; unfold Lib.countByte; rw [e]; rfl)
      refine ⟨fun x w2 => x = true ∧ w2 = w1, bsel_of (fun _ => ⟨rfl, rfl⟩) (fun h => by simp at h), ?_⟩
      rintro _ _ w2 ⟨rfl, rfl⟩
      exact bsel_of (fun _ => ⟨rfl, by omega, rfl⟩) (fun h => by cases h)
  rintro _ _ w1 ⟨rfl, hpos, rfl⟩
  have hmul : nw.length * s.count c ≤ 100 * 1000000 := Nat.mul_le_mul h1 (by omega)
  have hmul2 : s.count c * nw.length = nw.length * s.count c := Nat.mul_comm _ _
  have hmul3 : s.count c ≤ nw.length * s.count c := Nat.le_mul_of_pos_left _ hnw
  have eg : IntKind.i64.wrap ((s.length : Int) + IntKind.i64.wrap ((s.count c : Int) * IntKind.i64.wrap ((nw.length : Int) - (([c] : List UInt8).length : Int)))) = ((s.length + (nw.length * s.count c - s.count c) : Nat) : Int) := by
    have e1 : IntKind.i64.wrap ((nw.length : Int) - (([c] : List UInt8).length : Int)) = ((nw.length - 1 : Nat) : Int) := by
      simp only [List.length_cons, List.length_nil]
      rw [wrap_i64 (by omega) (by omega)]
      omega
    have e2 : (s.count c : Int) * ((nw.length - 1 : Nat) : Int) = ((nw.length * s.count c - s.count c : Nat) : Int) := by
      rw [← Int.natCast_mul, Nat.mul_sub, Nat.mul_one, hmul2]
    have e3 := wrap_i64 (n := ((nw.length * s.count c - s.count c : Nat) : Int)) (by omega) (by omega)
    rw [e1, e2, e3, wrap_i64 (by omega) (by omega)]
    omega
  rw [eg]
  unfold letW
  have hbk : (w1.alloc (.cells #[(.pointer none), (.slice none 0 0)] 44)).heap[w1.heap.size]? = some (.cells #[(.pointer none), (.slice none 0 0)] 44 (0, 0)) := heap_alloc_new w1 _
  have hsz : (w1.alloc (.cells #[(.pointer none), (.slice none 0 0)] 44)).heap.size = w1.heap.size + 1 := World.size_alloc ..
  have hst0 : Still w1 (w1.alloc (.cells #[(.pointer none), (.slice none 0 0)] 44)) := (Mod.refl _ _).alloc _
  generalize hw2 : w1.alloc (.cells #[(.pointer none), (.slice none 0 0)] 44) = w2 at *
  refine (Tryd.Builder_Grow_fresh w1.heap.size w1.heap.size _ w2 (Nat.le_refl _) hbk (by omega) (by omega)).mono ?_
  rintro _ w3 ⟨rfl, hB3, hb3⟩
  refine .inl ⟨rfl, bsel_of (fun _ => ?_) (fun h => by simp at h)⟩
  obtain ⟨_, v3, hb3h, hown3, hne3⟩ := hB3
  have hst3 : Still w1 w3 := hst0.trans' hb3 (by omega)
  have hB : BldAt0 w3 44 w1.heap.size 0 w1.heap.size [.pointer (some ⟨w1.heap.size, 0, none⟩), v3] v3 [] := ⟨Row.of0 hb3h, .inr rfl, rfl, Owns.of hown3, hne3⟩
  have l1 : ∀ a b, LiesB 44 (([a, b] : List Value).length) 0 := fun _ _ => liesB_own
  refine ⟨fun st i w4 => ∃ (k n : Nat) (v : Value), st = (k : Int) ∧ i = (n : Int) ∧ k ≤ s.length ∧ n = (s.take k).count c ∧ n ≤ s.count c ∧ BldAt0 w4 44 w1.heap.size 0 w1.heap.size [.pointer (some ⟨w1.heap.size, 0, none⟩), v] v (replB c nw (s.take k)) ∧ Still w1 w4,
    fun _ i _ => s.count c - i.toNat, ⟨0, 0, v3, rfl, rfl, Nat.zero_le _, rfl, Nat.zero_le _, hB, hst3⟩, ?_⟩
  rintro _ _ _ w4 ⟨k, n, v, rfl, rfl, hk, hn, hnm, hB4, hst4⟩
  have hcount : (s.take k).count c + (s.drop k).count c = s.count c := by rw [← List.count_append, List.take_append_drop]
  have hrk := replB_append c nw (s.take k) (s.drop k)
  rw [List.take_append_drop] at hrk
  have hrkl : (replB c nw (s.take k)).length + (replB c nw (s.drop k)).length = (replB c nw s).length := by rw [hrk, List.length_append]
  have hdl : (s.drop k).length = s.length - k := List.length_drop
  have hrd := replB_length (c := c) (nw := nw) (s.drop k)
  simp only [Int.toNat_natCast]
  refine bsel_of (fun hx => ?_) (fun hx => ?_)
  · have hx : n < s.count c := by have := of_decide_eq_true hx; omega
    obtain ⟨j, hj1, hj2, hj3, hj4⟩ := next_idx (c := c) (s := s.drop k) (by omega)
    have hkj : s.drop k = (s.drop k).take j ++ c :: s.drop (k + j + 1) := by
      have h := (List.getElem?_eq_some_iff.1 hj4)
      obtain ⟨h, h'⟩ := h
      conv => lhs; rw [← List.take_append_drop j (s.drop k)]
      rw [List.drop_eq_getElem_cons h, h', List.drop_drop]
      rfl
    have htake : s.take (k + j + 1) = s.take k ++ ((s.drop k).take j ++ [c]) := by
      have h := (List.getElem?_eq_some_iff.1 hj4)
      obtain ⟨h, h'⟩ := h
      rw [Nat.add_assoc, List.take_add, List.take_add_one, hj4]
      rfl
    have hrt : replB c nw (s.take (k + j + 1)) = replB c nw (s.take k) ++ (s.drop k).take j ++ nw := by
      rw [htake, replB_append, replB_append, replB_none hj3, List.append_assoc]
      simp [replB]
    have hrl2 : (replB c nw (s.take (k + j + 1))).length ≤ (replB c nw s).length := by
      have := replB_append c nw (s.take (k + j + 1)) (s.drop (k + j + 1))
      rw [List.take_append_drop] at this
      rw [this, List.length_append]
      omega
    rw [hrt, List.length_append, List.length_append] at hrl2
    refine ⟨by omega, by omega, (Tryd.strings_Index_one (S (s.drop k)) c w4).mono ?_⟩
    rintro _ w5 ⟨rfl, rfl⟩
    have e5 : Lib.indexByte (S (s.drop k)).data.toList c = (j : Int) := hj1
    rw [e5]
    have ej : IntKind.i64.wrap ((k : Int) + (j : Int)) = ((k + j : Nat) : Int) := by rw [wrap_i64 (by omega) (by omega)]; omega
    have ej1 : IntKind.i64.wrap (((k + j : Nat) : Int) + (([c] : List UInt8).length : Int)) = ((k + j + 1 : Nat) : Int) := by
      simp only [List.length_cons, List.length_nil]
      rw [wrap_i64 (by omega) (by omega)]
      omega
    have en : IntKind.i64.wrap ((n : Int) + 1) = ((n + 1 : Nat) : Int) := by rw [wrap_i64 (by omega) (by omega)]; omega
    refine .inl ⟨_, rfl, by omega, by rw [ej]; omega, by rw [ej]; omega, ?_⟩
    rw [ej, ej1, en, Int.toNat_natCast, Nat.add_sub_cancel_left]
    refine (writeString_spec0 hB4 (l1 _ _) _ (by have := hst4.size; omega) (by omega)).mono ?_
    rintro _ w6 ⟨rfl, v6, hB6, _, hm6⟩
    have hst6 : Still w1 w6 := Mod.trans hst4 hm6 (fun _ h => h) (fun i hi e => by
      rcases e with rfl | e
      · omega
      · have := hB4.own.ownLt e; omega)
    refine .inl ⟨_, _, rfl, rfl, (writeString_spec0 hB6 (l1 _ _) nw (by have := hst6.size; omega) (by rw [List.length_append]; omega)).mono ?_⟩
    rintro _ w7 ⟨rfl, v7, hB7, _, hm7⟩
    have hst7 : Still w1 w7 := Mod.trans hst6 hm7 (fun _ h => h) (fun i hi e => by
      rcases e with rfl | e
      · omega
      · have := hB6.own.ownLt e; omega)
    refine .inl ⟨_, _, rfl, rfl, ⟨k + j + 1, n + 1, v7, rfl, rfl, by omega, ?_, hx, ?_, hst7⟩, by omega⟩
    · rw [htake, List.count_append, List.count_append, hj3, hn]
      simp
    · rw [hrt]
      exact hB7
  · have hx : n = s.count c := by have := of_decide_eq_false hx; omega
    have hd0 : (s.drop k).count c = 0 := by omega
    refine ⟨by omega, by omega, (writeString_spec0 hB4 (l1 _ _) _ (by have := hst4.size; omega) (by rw [replB_none hd0] at hrkl; omega)).mono ?_⟩
    rintro _ w6 ⟨rfl, v6, hB6, _, hm6⟩
    have hst6 : Still w1 w6 := Mod.trans hst4 hm6 (fun _ h => h) (fun i hi e => by
      rcases e with rfl | e
      · omega
      · have := hB4.own.ownLt e; omega)
    have e : replB c nw (s.take k) ++ s.drop k = replB c nw s := by rw [hrk, replB_none hd0]
    rw [e] at hB6
    have hnil : replB c nw s ≠ [] := by
      intro e
      rw [e] at hrl
      simp only [List.length_nil] at hrl
      omega
    refine .inl ⟨_, _, rfl, rfl, (string_spec (hB6.roomy hnil) (by omega)).mono ?_⟩
    rintro _ w7 ⟨rfl, hm7⟩
    exact .inl ⟨_, rfl, rfl, Mod.trans hst6 hm7 (fun _ h => h) (fun i hi e => by have := hB6.own.ownLt e; omega)⟩
theorem replaceAll_spec (c : UInt8) (nw s : List UInt8) (hs : s.length ≤ 1000000) (h0 : nw ≠ []) (h1 : nw.length ≤ 100) (hne : nw ≠ [c]) :
    Calls Tryd.prog fn_strings_ReplaceAll #[.string (S s), .string (S [c]), .string (S nw)] w (fun e w' => e = .returned (.string (S (replB c nw s))) ∧ Still w w') := by
  refine strings_ReplaceAll_calls _ _ _ _ _ ((replace_spec c nw s hs h0 h1 hne).mono ?_)
  rintro _ w1 ⟨rfl, h⟩
  exact .inl ⟨_, rfl, rfl, h⟩
end Go.Proofs.YtckcdbkggaoomaaDoor
