/- Expressions of numbers: the program's reading of operators and numbers. Conditions: as each theorem names them. -/
import Derived.Test.YtgincpkggnndeaaGreatDoorM2
import Derived.Test.YtgincpkggnndeaaGreatDoorConv2
import Derived.Test.YtgincpkggnndeaaGreatDoorShelf
import Derived.Shelf.Strings.SlTrimAscii
namespace Go.Proofs.YtgincpkggnndeaaGreatDoor
open Go.RowKit Vc
variable {w : World}

abbrev errP (k : Nat) : List PanicEntry := [{ v := .iface 36 (.int .i64 (k : Int)), recovered := false }]
theorem want_spec (b : Bool) (k : Nat) : Calls Tryz.prog fn_arith_want #[.bool b, .int .i64 (k : Int)] w (fun e w' => (if b = true then e = .returned (.tuple #[]) else e = .panicked (errP k)) ∧ w' = w) := by
  refine arith_want_calls _ _ _ _ ?_
  cases b
  · exact ⟨rfl, rfl⟩
  · exact ⟨rfl, rfl⟩
theorem truth_spec (b : Bool) : Calls Tryz.prog fn_arith_truth #[.bool b] w (fun e w' => e = .returned (.int .i64 (truthI b)) ∧ w' = w) := by
  refine arith_truth_calls _ _ _ ?_
  cases b
  · exact ⟨rfl, rfl⟩
  · exact ⟨rfl, rfl⟩
theorem unary_spec (op : Txt) (n : Int) : Calls Tryz.prog fn_arith_unary #[.string (S op), .int .i64 n] w (fun e w' => e = .returned (.int .i64 (una op n)) ∧ w' = w) := by
  refine arith_unary_calls _ _ _ _ ?_
  unfold una
  refine bsel_of (fun h => ?_) (fun h => ?_)
  · rw [if_pos (of_decide_eq_true h)]
    exact ⟨rfl, rfl⟩
  rw [if_neg (of_decide_eq_false h)]
  refine bsel_of (fun h => ?_) (fun h => ?_)
  · rw [if_pos (of_decide_eq_true h)]
    exact ⟨rfl, rfl⟩
  rw [if_neg (of_decide_eq_false h)]
  refine bsel_of (fun h => ?_) (fun h => ?_)
  · rw [if_pos (of_decide_eq_true h)]
    refine (truth_spec _).mono ?_
    rintro _ w1 ⟨rfl, rfl⟩
    exact .inl ⟨_, rfl, rfl, rfl⟩
  rw [if_neg (of_decide_eq_false h)]
  exact ⟨rfl, rfl⟩
theorem trimLeft_spec (s : Txt) (cs : Txt) (hcs : cs.length < 4294967281) (ha : cs.all (fun b => decide (b.toNat < 128)) = true) : Calls Tryz.prog fn_strings_TrimLeft #[.string (S s), .string (S cs)] w (fun e w' => e = .returned (.string (S (s.dropWhile (cs.contains ·)))) ∧ Still w w') := by
  refine (Any.strings_TrimLeft_laid Tryz.lays161 (by kernel_rfl) (S s) (S cs) w (by simpa [ByteArray.size] using hcs) (ascii_of_all ha)).mono ?_
  rintro _ w' ⟨rfl, hb⟩
  exact ⟨rfl, (Still.refl w).trans' hb (Nat.le_refl _)⟩
theorem operators_spec : Calls Tryz.prog fn_arith_operators #[] w (fun e w' => ∃ b, e = .returned (.slice (some ⟨b, 0, none⟩) 30 30) ∧ StrsAt w' (some ⟨b, 0, none⟩) 30 allOps ∧ Still w w') := by
  refine arith_operators_calls _ _ ?_
  exact allocK fun w1 hr1 hs1 hz1 => ⟨_, rfl, StrsAt.row (l := allOps) hr1, hs1⟩
theorem op_spec {g : Nat} {s : Txt} (h : Row w g 57 ⟨[.string (S s)]⟩) : Calls Tryz.prog fn_arith_parser_op #[.pointer (some ⟨g, 0, none⟩)] w (fun e w' => e = .returned (.string (S (opAt s))) ∧ Row w' g 57 ⟨[.string (S (trim s))]⟩ ∧ Mod (fun k => k = g) w w') := by
  refine arith_parser_op_calls _ _ _ ?_
  refine ⟨s, h.lget rfl, (trimLeft_spec s [32, 9, 10] (by decide) (by decide)).mono ?_⟩
  rintro _ w1 ⟨rfl, hs1⟩
  have et : s.dropWhile (([32, 9, 10] : Txt).contains ·) = trim s := by
    unfold trim
    congr 1
    funext c
    simp [blank3, Bool.or_assoc]
    rfl
  refine .inl ⟨_, rfl, ?_⟩
  rw [et]
  refine stK (h.still hs1) (by simp) (by simp [Value.oneCell']) fun w2 hr2 hm2 hz2 => ?_
  refine operators_spec.mono ?_
  rintro _ w3 ⟨b, rfl, hl3, hs3⟩
  refine .inl ⟨_, _, _, rfl, ?_⟩
  have hm3 : Mod (fun k => k = g) w w3 := Mod.trans (Mod.trans hs1 hm2 (fun _ h => h.elim) (fun _ _ h => h)) hs3 (fun _ h => h) (fun _ _ h => h.elim)
  refine ⟨fun x w4 => ∃ i : Nat, x = (i : Int) ∧ i ≤ 30 ∧ opAt s = ((allOps.drop i).find? (fun o => o.isPrefixOf (trim s))).getD [] ∧ Still w3 w4, fun x _ => 30 - x.toNat, ⟨0, rfl, Nat.zero_le _, rfl, Still.refl _⟩, ?_⟩
  rintro _ _ w4 ⟨i, rfl, hi, ho, hs4⟩
  have hr4 : Row w4 g 57 ⟨[.string (S (trim s))]⟩ := (hr2.still hs3).still hs4
  have hm4 : Mod (fun k => k = g) w w4 := Mod.trans hm3 hs4 (fun _ h => h) (fun _ _ h => h.elim)
  refine bsel_of (fun hx => ?_) (fun hx => ?_)
  · have hx : i < 30 := by have := of_decide_eq_true hx; omega
    have e1 : IntKind.i64.wrap ((i : Int) + 1) = ((i + 1 : Nat) : Int) := by rw [wrap_i64 (by omega) (by omega)]; omega
    obtain ⟨a, ha, hc⟩ := (hl3.still hs4).get hx
    injection ha with ha
    subst ha
    refine ⟨by omega, by omega, _, by rw [Int.toNat_natCast, Nat.mul_one]; exact hc, _, hr4.lget rfl, ?_⟩
    refine (Tryz.strings_HasPrefix _ _ _).mono ?_
    rintro _ w5 ⟨rfl, rfl⟩
    refine .inl ⟨_, rfl, ?_⟩
    have hil : i < allOps.length := hx
    rw [List.drop_eq_getElem_cons hil, List.find?_cons] at ho
    have ep : Lib.hasPrefix (S (trim s)).data.toList (S (allOps[i]'hil)).data.toList = (allOps[i]'hil).isPrefixOf (trim s) := rfl
    rw [ep]
    cases hp : (allOps[i]'hil).isPrefixOf (trim s) with
    | true =>
      rw [hp] at ho
      refine bsel_of (fun _ => ⟨?_, hr4, hm4⟩) (fun h => by cases h)
      rw [ho]
      rfl
    | false =>
      rw [hp] at ho
      refine bsel_of (fun h => by cases h) (fun _ => ?_)
      rw [e1]
      exact ⟨⟨i + 1, rfl, hx, ho, hs4⟩, by dsimp only; omega⟩
  · have hx : i = 30 := by have := of_decide_eq_false hx; omega
    rw [hx, List.drop_of_length_le (by decide)] at ho
    rw [ho]
    exact ⟨rfl, hr4, hm4⟩
/-- The cells stand in another block. -/
def Ahead' (g : Nat) (p : Option Addr) : Prop := ∀ a, p = some a → a.block ≠ g
theorem contains_spec {p : Option Addr} {n C : Nat} {l : List Txt} (h : StrsAt w p n l) (hn : n < 1000) (x : Txt) : Calls Tryz.prog fn_slices_Contains_string_string #[.slice p n C, .string (S x)] w (fun e w' => e = .returned (.bool (decide (x ∈ l))) ∧ Still w w') := by
  refine slices_Contains_string_string_calls _ _ _ _ _ _ ?_
  have hl := h.1
  have key : Calls Tryz.prog fn_slices_Index_string_string #[.slice p n C, .string (S x)] w (fun e w' => (∃ z : Int, e = .returned (.int .i64 z) ∧ (0 ≤ z ↔ x ∈ l)) ∧ Still w w') := by
    refine slices_Index_string_string_calls _ _ _ _ _ _ ?_
    refine ⟨fun z w1 => ∃ i : Nat, z = (i : Int) ∧ i ≤ n ∧ x ∉ l.take i ∧ w1 = w, fun z _ => n - z.toNat, ⟨0, rfl, Nat.zero_le _, by simp, rfl⟩, ?_⟩
    rintro _ _ w1 ⟨i, rfl, hi, hno, rfl⟩
    refine bsel_of (fun hx => ?_) (fun hx => ?_)
    · have hx : i < n := by have := of_decide_eq_true hx; omega
      have e1 : IntKind.i64.wrap ((i : Int) + 1) = ((i + 1 : Nat) : Int) := by rw [wrap_i64 (by omega) (by omega)]; omega
      obtain ⟨a, rfl, hc⟩ := h.get hx
      have hil : i < l.length := by omega
      refine ⟨by omega, by omega, _, by rw [Int.toNat_natCast, Nat.mul_one]; exact hc, bsel_of (fun he => ?_) (fun he => ?_)⟩
      · have he := of_decide_eq_true he
        exact ⟨⟨_, rfl, ⟨fun _ => by rw [he]; exact List.getElem_mem hil, fun _ => by omega⟩⟩, Still.refl _⟩
      · have he := of_decide_eq_false he
        rw [e1]
        refine ⟨⟨i + 1, rfl, hx, ?_, rfl⟩, by dsimp only; omega⟩
        rw [take_snoc hil]
        intro hm
        rcases List.mem_append.1 hm with hm | hm
        · exact hno hm
        · simp at hm
          exact he hm
    · have hx : i = l.length := by have := of_decide_eq_false hx; omega
      rw [hx, List.take_length] at hno
      exact ⟨⟨_, rfl, ⟨fun h => absurd h (by decide), fun h => absurd h hno⟩⟩, Still.refl _⟩
  refine key.mono ?_
  rintro _ w1 ⟨⟨z, rfl, hz⟩, hs1⟩
  refine .inl ⟨_, rfl, ?_, hs1⟩
  rw [decide_eq_decide.2 hz]
theorem take_spec {g : Nat} {s : Txt} (h : Row w g 57 ⟨[.string (S s)]⟩) {p : Option Addr} {n C : Nat} {l : List Txt} (hl : StrsAt w p n l) (hg : Ahead' g p) (hn : n < 1000) (h0 : [] ∉ l) :
    Calls Tryz.prog fn_arith_parser_take #[.pointer (some ⟨g, 0, none⟩), .slice p n C] w (fun e w' => (if opAt s ∈ l then e = .returned (.string (S (opAt s))) ∧ Row w' g 57 ⟨[.string (S (aft s))]⟩ else e = .returned (.string (S [])) ∧ Row w' g 57 ⟨[.string (S (trim s))]⟩) ∧ Mod (fun k => k = g) w w') := by
  refine arith_parser_take_calls _ _ _ _ _ _ ?_
  refine (op_spec h).mono ?_
  rintro _ w1 ⟨rfl, hr1, hm1⟩
  refine .inl ⟨_, rfl, bsel_of (fun he => ?_) (fun he => ?_)⟩
  · have he := of_decide_eq_true he
    dsimp only
    rw [if_neg (show ¬ opAt s ∈ l by rw [he]; exact h0)]
    exact ⟨⟨rfl, hr1⟩, hm1⟩
  have he := of_decide_eq_false he
  have hl1 : StrsAt w1 p n l := ⟨hl.1, fun hn => by
    obtain ⟨a, ha, hc⟩ := hl.2 hn
    exact ⟨a, ha, fun j u hu => (World.cell?_of_block (hm1.block _ (World.block_lt_of_cell? _ _ (hc j u hu)) (by
      have hb : (a.add j).block = a.block := by unfold Addr.add; split <;> rfl
      rw [hb]
      exact hg a ha))).trans (hc j u hu)⟩⟩
  refine (contains_spec hl1 hn _).mono ?_
  rintro _ w2 ⟨rfl, hs2⟩
  have hm2 : Mod (fun k => k = g) w w2 := Mod.trans hm1 hs2 (fun _ h => h) (fun _ _ h => h.elim)
  have hr2 := hr1.still hs2
  refine .inl ⟨_, rfl, bsel_of (fun hx => ?_) (fun hx => ?_)⟩
  · have hx : opAt s ∉ l := by intro e; rw [decide_eq_true e] at hx; cases hx
    dsimp only
    rw [if_neg hx]
    exact ⟨⟨rfl, hr2⟩, hm2⟩
  · have hx : opAt s ∈ l := by
      by_cases e : opAt s ∈ l
      · exact e
      · rw [decide_eq_false e] at hx; cases hx
    have hpre := (opAt_mem he).2
    rw [List.isPrefixOf_iff_prefix] at hpre
    have hle := hpre.length_le
    refine ⟨trim s, hr2.lget rfl, by omega, by omega, stK hr2 (by simp) (by simp [Value.oneCell']) fun w3 hr3 hm3 hz3 => ?_⟩
    rw [Int.toNat_natCast] at hr3
    rw [if_pos hx]
    exact ⟨⟨rfl, hr3⟩, Mod.trans hm2 hm3 (fun _ h => h) (fun _ _ h => h)⟩
end Go.Proofs.YtgincpkggnndeaaGreatDoor
