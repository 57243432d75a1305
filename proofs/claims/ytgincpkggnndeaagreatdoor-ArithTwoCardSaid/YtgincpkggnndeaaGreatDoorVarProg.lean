/- Variables, the program's side: names, places, what the library's functions do. Conditions: as each theorem names them. -/
import Derived.Test.YtgincpkggnndeaaGreatDoorVar
import Derived.Test.YtgincpkggnndeaaGreatDoorM1
import Derived.Test.YtgincpkggnndeaaGreatDoorShelf
import Derived.Test.YtgincpkggnndeaaGreatDoorGen
import Derived.Shelf.Spec.SlicesGrow
import Derived.Laws.RangeAny
namespace Go.Proofs.YtgincpkggnndeaaGreatDoor
open Go.RowKit Vc Go.Shelf
variable {w : World}

theorem byte_eq {a b : UInt8} : (a.toNat : Int) = (b.toNat : Int) ↔ a = b := ⟨fun h => UInt8.toNat_inj.1 (by omega), fun h => by rw [h]⟩
theorem getD_some {α : Type} {p : List α} {i : Nat} (h : i < p.length) : p[i]? = some p[i] := List.getElem?_eq_getElem h

theorem calleeK_mk {g : FuncId} {first cap : List Value} {K : FuncId → List Value → List Value → Prop} (h : K g first cap) : calleeK (.func (.func g) ⟨first⟩ ⟨cap⟩) K := h
/-! ### Variables that may be read -/
def VarAt (w : World) (p : Option Addr) (n C : Nat) (l : List Vr) : Prop := l.length = n ∧ n ≤ C ∧ (0 < n → ∃ a, p = some a ∧ ∀ (j : Nat) (u : Value), (vcs l)[j]? = some u → w.cell? (a.add j) = some u)
section
variable {p : Option Addr} {n C : Nat} {l : List Vr}
theorem VarAt.still {w' : World} (h : VarAt w p n C l) (hm : Still w w') : VarAt w' p n C l :=
  ⟨h.1, h.2.1, fun hn => by
    obtain ⟨a, h1, h2⟩ := h.2.2 hn
    exact ⟨a, h1, fun j u hu => hm.cell (h2 j u hu)⟩⟩
theorem VarAt.nil (w : World) : VarAt w none 0 0 [] := ⟨rfl, Nat.le_refl _, fun h => absurd h (Nat.lt_irrefl _)⟩
theorem VarAt.get (h : VarAt w p n C l) {i : Nat} {x : Vr} (hx : l[i]? = some x) : ∃ a, p = some a ∧ w.cell? (a.add (i * 4)) = some (.string (S x.name)) ∧ w.cell? ((a.add (i * 4)).add 1) = some (.string (S x.value)) ∧
    w.cell? ((a.add (i * 4)).add 2) = some (.bool x.exp) ∧ w.cell? ((a.add (i * 4)).add 3) = some (.bool x.ro) := by
  have hi := (List.getElem?_eq_some_iff.1 hx).1
  obtain ⟨a, h1, h2⟩ := h.2.2 (by have := h.1; omega)
  obtain ⟨g1, g2, g3, g4⟩ := vcs_get hx
  refine ⟨a, h1, h2 _ _ g1, ?_, ?_, ?_⟩
  · rw [adds]
    exact h2 _ _ g2
  · rw [adds]
    exact h2 _ _ g3
  · rw [adds]
    exact h2 _ _ g4
theorem VarAt.take (h : VarAt w p n C l) {k : Nat} (hk : k ≤ n) : VarAt w p k C (l.take k) := by
  obtain ⟨h1, h2, h3⟩ := h
  refine ⟨by rw [List.length_take]; omega, by omega, fun hk0 => ?_⟩
  obtain ⟨a, h4, h5⟩ := h3 (by omega)
  refine ⟨a, h4, fun j u hu => h5 j u ?_⟩
  rw [← List.take_append_drop k l, vcs_append, List.getElem?_append_left]
  · exact hu
  · exact (List.getElem?_eq_some_iff.1 hu).1
theorem VarAt.drop (h : VarAt w p n C l) {k : Nat} (hk : k ≤ n) : VarAt w (if C = k then p else Option.map (·.add (k * 4)) p) (n - k) (C - k) (l.drop k) := by
  obtain ⟨h1, h2, h3⟩ := h
  refine ⟨by rw [List.length_drop]; omega, by omega, fun hk0 => ?_⟩
  obtain ⟨a, rfl, h5⟩ := h3 (by omega)
  rw [if_neg (by omega)]
  refine ⟨a.add (k * 4), rfl, fun j u hu => ?_⟩
  rw [adds]
  refine h5 _ u ?_
  rw [← List.take_append_drop k l, vcs_append, List.getElem?_append_right (by rw [vcs_length, List.length_take, Nat.min_eq_left (by omega)]; omega), vcs_length, List.length_take, Nat.min_eq_left (by omega), Nat.add_sub_cancel_left]
  exact hu
theorem VarAt.of {B : Nat} (h : Owns w B 31 4 (.slice p n C) n (vcs l)) : VarAt w p n C l := by
  have h1 := h.length
  rw [vcs_length] at h1
  refine ⟨by omega, ?_, fun hn => ?_⟩
  · rcases h.2 with ⟨he, _⟩ | ⟨g, cap, cur, he, _, _, hc, _⟩
    · injection he with e1 e2 e3
      omega
    · injection he with e1 e2 e3
      omega
  · obtain ⟨g, cap, he, _, _, _, hc⟩ := h.ownAddr hn
    injection he with e1 e2 e3
    subst e1
    refine ⟨_, rfl, fun j u hu => ?_⟩
    rw [add_row, Nat.zero_add]
    exact hc j u hu
end

/-! ### Names -/
theorem bool3 {A B : Prop} [Decidable A] [Decidable B] : (decide A && decide B) = decide (A ∧ B) := by
  by_cases hA : A <;> by_cases hB : B <;> simp [hA, hB]
theorem wletter_spec (c : Int) : Calls Tryz.prog fn_word_letter #[.int .i32 c] w (fun e w' => e = .returned (.bool (letterZ c)) ∧ w' = w) := by
  refine word_letter_calls _ _ _ ?_
  unfold letterZ
  refine bsel_of (fun h1 => bsel_of (fun h2 => ⟨by simp [of_decide_eq_true h1, of_decide_eq_true h2], rfl⟩) (fun h2 => bsel_of (fun h3 => bsel_of (fun h4 => ⟨by simp [of_decide_eq_true h3, of_decide_eq_true h4], rfl⟩) (fun h4 => ⟨?_, rfl⟩)) (fun h3 => ⟨?_, rfl⟩)))
    (fun h1 => bsel_of (fun h3 => bsel_of (fun h4 => ⟨by simp [of_decide_eq_true h3, of_decide_eq_true h4], rfl⟩) (fun h4 => ⟨?_, rfl⟩)) (fun h3 => ⟨?_, rfl⟩))
  · rw [h1, h2, h3, h4]; rfl
  · rw [h1, h2, h3]; rfl
  · rw [h1, h3, h4]; rfl
  · rw [h1, h3]; rfl
theorem wdigit_spec (c : Int) : Calls Tryz.prog fn_word_digit #[.int .i32 c] w (fun e w' => e = .returned (.bool (digitZ c)) ∧ w' = w) := by
  refine word_digit_calls _ _ _ ?_
  unfold digitZ
  exact bsel_of (fun h1 => ⟨by rw [h1]; rfl, rfl⟩) (fun h1 => ⟨by rw [h1]; rfl, rfl⟩)
def iterLeft (h : Nat) (w : World) : Nat := match w.heap[h]? with
  | some (.stringIter s p) => s.size - p
  | _ => 0
theorem letter_high {c : Int} (h : 128 ≤ c) : letterZ c = false ∧ digitZ c = false := by
  unfold letterZ digitZ
  constructor
  · simp only [Bool.or_eq_false_iff, Bool.and_eq_false_iff, decide_eq_false_iff_not]
    omega
  · simp only [Bool.and_eq_false_iff, decide_eq_false_iff_not]
    omega
theorem name_spec (s : Txt) (_hs : s.length ≤ 9223372036854775807) : Calls Tryz.prog fn_word_Name #[.string (S s)] w (fun e w' => e = .returned (.string (S (s.take (nameN true s)))) ∧ Still w w') := by
  refine word_Name_calls _ _ _ ?_
  refine ⟨fun w1 => ∃ k : Nat, w1.heap[w.heap.size]? = some (.stringIter (S s) k) ∧ k ≤ s.length ∧ nameN true s = k + nameN (decide (k = 0)) (s.drop k) ∧ Still w w1, iterLeft w.heap.size, ⟨0, heap_alloc_new w _, Nat.zero_le _, by simp, (Mod.refl _ _).alloc _⟩, ?_⟩
  rintro _ w1 ⟨k, hk, hkl, hn, hst⟩
  refine ⟨rfl, s, k, hk, bsel_of (fun hx => ?_) (fun hx => ?_)⟩
  · have hx : k < s.length := of_decide_eq_true hx
    have hd : s.drop k = s[k] :: s.drop (k + 1) := List.drop_eq_getElem_cons hx
    have hlt : w.heap.size < w1.heap.size := (Array.getElem?_eq_some_iff.1 hk).1
    have hb : (S s).size = s.length := rfl
    have still : ∀ q, Still w (w1.iterAt w.heap.size (S s) q) := fun q => ⟨hst.os, hst.tape, hst.output, by have := hst.size; simp only [World.iterAt, Array.size_setIfInBounds]; exact this, fun i hi hn => by
      have := hst.block i hi hn
      simp only [World.iterAt, Array.getElem?_setIfInBounds]
      rw [if_neg (by omega)]
      exact this⟩
    have stop : (letter s[k] || (!decide (k = 0) && digit s[k])) = false → nameN true s = k := by
      intro h
      rw [hn, hd, nameN, if_neg (by rw [h]; decide)]
      omega
    have go : ∀ q, (letter s[k] || (!decide (k = 0) && digit s[k])) = true → q = k + 1 → (∃ k : Nat, (w1.iterAt w.heap.size (S s) q).heap[w.heap.size]? = some (.stringIter (S s) k) ∧ k ≤ s.length ∧ nameN true s = k + nameN (decide (k = 0)) (s.drop k) ∧ Still w (w1.iterAt w.heap.size (S s) q)) ∧ iterLeft w.heap.size (w1.iterAt w.heap.size (S s) q) < iterLeft w.heap.size w1 := by
      rintro q h rfl
      have h1 : (w1.iterAt w.heap.size (S s) (k + 1)).heap[w.heap.size]? = some (.stringIter (S s) (k + 1)) := by simp [World.iterAt, hlt]
      refine ⟨⟨k + 1, h1, hx, ?_, still _⟩, ?_⟩
      · rw [hn, hd, nameN, if_pos h, decide_eq_false (show ¬ k + 1 = 0 by omega)]
        omega
      · unfold iterLeft
        rw [h1, hk]
        dsimp only
        rw [hb]
        omega
    have ret : nameN true s = k → 0 ≤ (k : Int) ∧ (k : Int) ≤ s.length ∧ (Ending.returned (.string (S (s.take (Int.toNat (k : Int))))) = Ending.returned (.string (S (s.take (nameN true s)))) ∧ Still w (w1.iterAt w.heap.size (S s) (k + (Utf8.decode (S s) k).2))) := by
      intro h
      exact ⟨by omega, by omega, by rw [Int.toNat_natCast, h], still _⟩
    have hkB : k < (S s).size := hx
    have hby : (S s)[k]'hkB = s[k] := rfl
    rcases Nat.lt_or_ge (s[k].toNat) 128 with hlo | hhi
    · have hdec : Utf8.decode (S s) k = (s[k].toNat, 1) := decode_ascii (S s) k hkB hlo
      rw [show (⟨⟨s⟩⟩ : ByteArray) = S s from rfl, hdec] 
      rw [hdec] at ret
      refine (wletter_spec _).mono ?_
      rintro _ w2 ⟨rfl, rfl⟩
      refine .inl ⟨_, rfl, bsel_of (fun h => ?_) (fun h => ?_)⟩
      · have h : letterZ (s[k].toNat : Int) = false := by simpa using h
        have h : letter s[k] = false := h
        refine bsel_of (fun h0 => ret (stop ?_)) (fun h0 => (wdigit_spec _).mono ?_)
        · have h0 : k = 0 := by have := of_decide_eq_true h0; omega
          rw [h, decide_eq_true h0]
          rfl
        · have h0 : ¬ k = 0 := by have := of_decide_eq_false h0; omega
          rintro _ w3 ⟨rfl, rfl⟩
          refine .inl ⟨_, rfl, bsel_of (fun hd => ret (stop ?_)) (fun hd => go _ ?_ rfl)⟩
          · have hd : digitZ (s[k].toNat : Int) = false := by simpa using hd
            have hd : digit s[k] = false := hd
            rw [h, hd, Bool.and_false]
            rfl
          · have hd : digitZ (s[k].toNat : Int) = true := by simpa using hd
            have hd : digit s[k] = true := hd
            rw [hd, decide_eq_false h0]
            simp
      · have h : letterZ (s[k].toNat : Int) = true := by simpa using h
        have h : letter s[k] = true := h
        exact go _ (by rw [h]; rfl) rfl
    · obtain ⟨hc, hw⟩ := decode_high (S s) k hkB hhi
      have hz := letter_high (c := ((Utf8.decode (S s) k).1 : Int)) (by omega)
      have hz2 := letter_high (c := (s[k].toNat : Int)) (by omega)
      have hst0 : nameN true s = k := stop (by unfold letter digit; rw [hz2.1, hz2.2, Bool.and_false]; rfl)
      rw [show (⟨⟨s⟩⟩ : ByteArray) = S s from rfl]
      refine (wletter_spec _).mono ?_
      rintro _ w2 ⟨rfl, rfl⟩
      refine .inl ⟨_, rfl, bsel_of (fun h => bsel_of (fun h0 => ret hst0) (fun h0 => (wdigit_spec _).mono ?_)) (fun h => by rw [hz.1] at h; cases h)⟩
      rintro _ w3 ⟨rfl, rfl⟩
      exact .inl ⟨_, rfl, bsel_of (fun hd => ret hst0) (fun hd => by rw [hz.2] at hd; cases hd)⟩
  · have hx : k = s.length := by have := of_decide_eq_false hx; omega
    refine ⟨?_, hst⟩
    subst hx
    rw [hn, List.drop_length, nameN, Nat.add_zero, List.take_length]
theorem isName_spec (s : Txt) (hs : s.length ≤ 9223372036854775807) : Calls Tryz.prog fn_word_IsName #[.string (S s)] w (fun e w' => e = .returned (.bool (isName s)) ∧ Still w w') := by
  refine word_IsName_calls _ _ _ ?_
  unfold isName
  refine bsel_of (fun h => (name_spec s hs).mono ?_) (fun h => ⟨by rw [h]; rfl, Mod.refl _ _⟩)
  rintro _ w1 ⟨rfl, h1⟩
  refine .inl ⟨_, rfl, ?_, h1⟩
  rw [h, Bool.true_and]
  congr 2
  apply decide_eq_decide.2
  have := nameN_le true s
  constructor
  · intro e
    have := congrArg List.length e
    rw [List.length_take] at this
    omega
  · intro e
    rw [e, List.take_length]

/-! ### Places -/
theorem cmp_spec (x : Vr) (s : Txt) : Calls Tryz.prog fn_vars_find_1 #[.agg #[.string (S x.name), .string (S x.value), .bool x.exp, .bool x.ro], .string (S s)] w (fun e w' => e = .returned (.int .i64 (Go.Lib.compareBytes x.name s)) ∧ Still w w') := by
  refine vars_find_1_calls _ _ _ _ _ _ _ ?_
  have hr := Row.new w 31 ⟨vcell x⟩
  refine ⟨_, hr.cellv rfl, (Tryz.strings_Compare (S x.name) (S s) _).mono ?_⟩
  rintro _ w1 ⟨rfl, rfl⟩
  exact .inl ⟨_, rfl, rfl, (Mod.refl _ _).alloc _⟩
theorem mid_eq {a b : Nat} (h : a + b < 1000000000) : IntKind.i64.wrap (Int.fdiv (IntKind.u64.wrap (IntKind.i64.wrap ((a : Int) + (b : Int)))) (2 ^ (min (Int.toNat (1 : Int)) (IntKind.u64.bits)))) = (((a + b) / 2 : Nat) : Int) := by
  have e2 : (2 : Int) ^ (min (Int.toNat (1 : Int)) (IntKind.u64.bits)) = 2 := by decide
  rw [e2, wrap_i64 (n := (a : Int) + b) (by omega) (by omega), wrap_u64 (by omega) (by omega), Int.fdiv_eq_ediv_of_nonneg _ (by decide), wrap_i64 (by omega) (by omega)]
  omega
theorem callable_find : callable Tryz.prog fn_vars_find_1 = true := by kernel_rfl
set_option maxRecDepth 10000 in
theorem search_spec {p : Option Addr} {n C : Nat} {l : List Vr} (h : VarAt w p n C l) (hs : Rising l) (hn : n < 1000000) (s : Txt) :
    Calls Tryz.prog fn_slices_BinarySearchFunc_api_Var_api_Var_string #[.slice p n C, .string (S s), .func (.func fn_vars_find_1) #[] #[]] w (fun e w' => e = .returned (.tuple #[.int .i64 (pos s l : Int), .bool (get s l).isSome]) ∧ Still w w') := by
  refine slices_BinarySearchFunc_api_Var_api_Var_string_calls _ _ _ _ _ _ _ ?_
  have hl := h.1
  have hpl := pos_le s l
  refine ⟨fun i j w1 => ∃ a b : Nat, i = (a : Int) ∧ j = (b : Int) ∧ a ≤ pos s l ∧ pos s l ≤ b ∧ b ≤ n ∧ Still w w1, fun i j _ => j.toNat - i.toNat, ⟨0, n, rfl, rfl, Nat.zero_le _, by omega, Nat.le_refl _, Mod.refl _ _⟩, ?_⟩
  rintro _ _ _ w1 ⟨a, b, rfl, rfl, ha, hb, hbn, hst⟩
  have h1 := h.still hst
  refine bsel_of (fun hx => ?_) (fun hx => ?_)
  · have hx : a < b := by have := of_decide_eq_true hx; omega
    rw [mid_eq (by omega)]
    have hm : (a + b) / 2 < b := by omega
    have hml : (a + b) / 2 < l.length := by omega
    have hg := getD_some hml
    obtain ⟨q, rfl, c1, c2, c3, c4⟩ := h1.get hg
    have e1 : IntKind.i64.wrap ((((a + b) / 2 : Nat) : Int) + 1) = (((a + b) / 2 + 1 : Nat) : Int) := by rw [wrap_i64 (by omega) (by omega)]; omega
    rw [e1]
    refine ⟨by decide, by omega, by omega, _, _, _, _, by rw [Int.toNat_natCast]; exact c1, by rw [Int.toNat_natCast]; exact c2, by rw [Int.toNat_natCast]; exact c3, by rw [Int.toNat_natCast]; exact c4, ?_⟩
    refine calleeK_mk (g := fn_vars_find_1) (first := []) (cap := []) ?_
    rw [callable_find]
    refine (cmp_spec l[(a + b) / 2] s).mono ?_
    rintro _ w2 ⟨rfl, h2⟩
    refine .inl ⟨_, rfl, ?_⟩
    rw [cmp_lt]
    refine bsel_of (fun hlt => ⟨⟨_, b, rfl, rfl, ?_, hb, hbn, hst.trans h2⟩, by dsimp only; omega⟩) (fun hlt => ⟨⟨a, _, rfl, rfl, ha, ?_, by omega, hst.trans h2⟩, by dsimp only; omega⟩)
    · rcases Nat.lt_or_ge ((a + b) / 2) (pos s l) with h | h
      · exact h
      · rw [ge_pos hs hg h] at hlt; cases hlt
    · rcases Nat.lt_or_ge ((a + b) / 2) (pos s l) with h | h
      · rw [lt_pos hg h] at hlt; cases hlt
      · exact h
  · have hx : a = pos s l ∧ b = pos s l := by have := of_decide_eq_false hx; omega
    obtain ⟨rfl, rfl⟩ := hx
    have hgp := get_pos s l
    refine bsel_of (fun hy => ?_) (fun hy => ?_)
    · have hy : pos s l < n := by have := of_decide_eq_true hy; omega
      have hg := getD_some (p := l) (i := pos s l) (by omega)
      obtain ⟨q, rfl, c1, c2, c3, c4⟩ := h1.get hg
      refine ⟨by omega, by omega, _, _, _, _, by rw [Int.toNat_natCast]; exact c1, by rw [Int.toNat_natCast]; exact c2, by rw [Int.toNat_natCast]; exact c3, by rw [Int.toNat_natCast]; exact c4, ?_⟩
      refine calleeK_mk (g := fn_vars_find_1) (first := []) (cap := []) ?_
      rw [callable_find]
      refine (cmp_spec l[pos s l] s).mono ?_
      rintro _ w2 ⟨rfl, h2⟩
      refine .inl ⟨_, rfl, ?_, hst.trans h2⟩
      rw [cmp_eq0, hgp, hg]
      dsimp only
      by_cases he : l[pos s l].name = s
      · rw [decide_eq_true he, if_pos he]; rfl
      · rw [decide_eq_false he, if_neg he]; rfl
    · have hy : ¬ pos s l < n := by have := of_decide_eq_false hy; omega
      refine ⟨?_, hst⟩
      rw [hgp, List.getElem?_eq_none (by omega)]
      rfl
theorem find_spec {p : Option Addr} {n C : Nat} {l : List Vr} (h : VarAt w p n C l) (hs : Rising l) (hn : n < 1000000) (s : Txt) :
    Calls Tryz.prog fn_vars_find #[.slice p n C, .string (S s)] w (fun e w' => e = .returned (.tuple #[.int .i64 (pos s l : Int), .bool (get s l).isSome]) ∧ Still w w') := by
  refine vars_find_calls _ _ _ _ _ _ ?_
  refine (search_spec h hs hn s).mono ?_
  rintro _ w1 ⟨rfl, h1⟩
  exact .inl ⟨_, _, rfl, rfl, h1⟩
end Go.Proofs.YtgincpkggnndeaaGreatDoor
