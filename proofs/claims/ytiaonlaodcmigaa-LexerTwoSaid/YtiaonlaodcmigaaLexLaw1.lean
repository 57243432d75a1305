/- Laws of the lexer against the document's answer, at the walk's level. Conditions: as each theorem names them. -/
import Derived.Test.YtiaonlaodcmigaaLexPieces
namespace Go.Proofs.Ytiaonlaodcmigaa
open Go.RowKit Vc
variable {w : World}

def awakeText : Txt := [97, 32, 39, 98, 32, 99, 39, 38, 38, 36, 40, 100, 32, 40, 101, 41, 41, 32, 35, 32, 102]
def awakeToks : List Tok := [(0, [97]), (0, [39, 98, 32, 99, 39]), (1, [38, 38]), (0, [36, 40, 100, 32, 40, 101, 41, 41])]
set_option maxRecDepth 10000 in
theorem awake_text : tokRes awakeText = (awakeToks, 0) := by kernel_rfl
set_option maxRecDepth 10000 in
theorem awake_quote : tokRes [39] = ([], 80) := by kernel_rfl
theorem awake_spec : Calls Try.prog fn_law07_awake #[] w (fun e w' => e = .returned (.bool true) ∧ Still w w') := by
  refine law07_awake_calls _ _ ?_
  refine (tokens_spec awakeText).mono ?_
  rw [awake_text]
  rintro _ w1 ⟨p, C, rfl, ho, h1⟩
  refine .inl ⟨_, _, _, _, rfl, (tokens_spec [39]).mono ?_⟩
  rw [awake_quote]
  rintro _ w2 ⟨q, D, rfl, _, h2⟩
  refine .inl ⟨_, _, _, _, rfl, bsel_of (fun _ => ?_) (fun h => by cases h)⟩
  have hr : Owns (w2.alloc (.cells ⟨tc awakeToks⟩ 35)) w2.heap.size 35 2 (.slice (some (Addr.mk w2.heap.size 0 none)) 4 4) 4 (tc awakeToks) :=
    ⟨rfl, .inr ⟨w2.heap.size, 4, ⟨tc awakeToks⟩, rfl, Nat.le_refl _, Row.new _ _ _, Nat.le_refl _, by decide, rfl, rfl⟩⟩
  have hst : Still w2 (w2.alloc (.cells ⟨tc awakeToks⟩ 35)) := (Mod.refl _ _).alloc _
  refine (same_spec (((TokAt.of_owns ho).still h2).still hst) (TokAt.of_owns (l := awakeToks) hr) (by decide)).mono ?_
  rintro _ w3 ⟨rfl, h3⟩
  refine .inl ⟨_, rfl, bsel_of (fun _ => ⟨rfl, ((h1.trans h2).trans hst).trans h3⟩) (fun h => ?_)⟩
  rw [decide_eq_true rfl] at h
  cases h
def signs : List Txt := [[97], [32], [10], [39], [34], [92], [36, 40], [41], [40], [36, 123], [125], [38, 38], [124, 124], [124], [59], [59, 59], [60], [62], [62, 62], [35], [36], [98], [38], [9]]
theorem signs_spec : Calls Try.prog fn_law07_signs #[] w (fun e w' => ∃ g, e = .returned (.slice (some ⟨g, 0, none⟩) signs.length signs.length) ∧ Row w' g 9 ⟨strs signs⟩ ∧ Still w w') := by
  refine law07_signs_calls _ _ ?_
  exact ⟨_, rfl, Row.new w 9 ⟨strs signs⟩, (Mod.refl _ _).alloc _⟩
theorem tokL_few : ∀ (n : Nat) (s : Txt) (l : List Tok), tokL n s = some l → l.length ≤ s.length
  | 0, _, _, h => by cases h
  | n + 1, [], l, h => by
    obtain rfl := Option.some.inj h
    exact Nat.le_refl _
  | n + 1, a :: r, l, h => by
    simp only [tokL] at h
    split at h
    · rename_i l1 t hone
      split at h
      · rename_i m hm
        obtain rfl := Option.some.inj h
        have h1 := tokOne_length hone
        have h2 := tokL_few n t m hm
        rw [List.length_append, List.length_cons]
        omega
      · cases h
    · cases h
theorem tokRes_few (s : Txt) : (tokRes s).1.length ≤ 20000 := by
  unfold tokRes
  split
  · exact Nat.zero_le _
  · split
    · rename_i l hl
      have := tokL_few _ _ _ hl
      dsimp only
      omega
    · exact Nat.zero_le _
/-- Behind a text: both answers, and that they are the same. -/
theorem both_spec (s : Txt) {R : Ending → World → Prop} (hR : ∀ w', Still w w' → R (.returned (.bool true)) w') :
    Calls Try.prog fn_lexer_Tokens #[(.string (S s))] w (fun ed2 w3 => (∃ (r2 : Option Addr) (rL1 rC1 : Nat), ∃ r3 : Int, ed2 = .returned (.tuple #[(.slice r2 rL1 rC1), (.int .i64 r3)]) ∧ Calls Try.prog fn_ref07_Tokens #[(.string (S s))] w3 (fun ed3 w4 => (∃ (r4 : Option Addr) (rL2 rC2 : Nat), ∃ r5 : Int, ed3 = .returned (.tuple #[(.slice r4 rL2 rC2), (.int .i64 r5)]) ∧ Calls Try.prog fn_law07_awake #[] w4 (fun ed4 w5 => (∃ r6 : Bool, ed4 = .returned (.bool r6) ∧ bsel r6 (Calls Try.prog fn_ref07_Same #[(.slice r2 rL1 rC1), (.slice r4 rL2 rC2)] w5 (fun ed5 w6 => (∃ r7 : Bool, ed5 = .returned (.bool r7) ∧ bsel r7 (R (.returned (.bool (decide (r3 = r5)))) w6) (R (.returned (.bool false)) w6)) ∨ (∃ ch5, ed5 = .panicked ch5 ∧ R (.panicked ch5) w6))) (R (.returned (.bool false)) w5)) ∨ (∃ ch4, ed4 = .panicked ch4 ∧ R (.panicked ch4) w5))) ∨ (∃ ch3, ed3 = .panicked ch3 ∧ R (.panicked ch3) w4))) ∨ (∃ ch2, ed2 = .panicked ch2 ∧ R (.panicked ch2) w3)) := by
  refine (tokens_spec s).mono ?_
  rintro _ w3 ⟨p, C, rfl, ho, h3⟩
  refine .inl ⟨_, _, _, _, rfl, (ref_tokens_spec s).mono ?_⟩
  rintro _ w4 ⟨q, D, rfl, ho', h4⟩
  refine .inl ⟨_, _, _, _, rfl, awake_spec.mono ?_⟩
  rintro _ w5 ⟨rfl, h5⟩
  have hfew := tokRes_few s
  refine .inl ⟨_, rfl, bsel_of (fun _ => (same_spec (((TokAt.of_owns ho).still h4).still h5) ((TokAt.of_owns ho').still h5) (by omega)).mono ?_) (fun h => by cases h)⟩
  rintro _ w6 ⟨rfl, h6⟩
  refine .inl ⟨_, rfl, bsel_of (fun _ => ?_) (fun h => ?_)⟩
  · rw [decide_eq_true rfl]
    exact hR _ (((h3.trans h4).trans h5).trans h6)
  · rw [decide_eq_true rfl] at h
    cases h
theorem LexerSmall_spec (l : Option Addr) (lL lC : Nat) (hl : U8s w l lL) : Calls Try.prog fn_law07_LexerSmall #[.slice l lL lC] w (fun e w' => e = .returned (.bool true) ∧ Still w w') := by
  refine law07_LexerSmall_calls _ _ _ _ _ ?_
  refine signs_spec.mono ?_
  rintro _ w1 ⟨g, rfl, hr, h1⟩
  refine .inl ⟨_, _, _, rfl, (pieces_of (hl.still h1) hr (by decide) (by decide) (by decide)).mono ?_⟩
  rintro _ w2 ⟨s, rfl, hs, rfl⟩
  exact .inl ⟨_, rfl, both_spec s (R := fun e w' => e = .returned (.bool true) ∧ Still w w') fun w' h' => ⟨rfl, h1.trans h'⟩⟩
def opens : List Txt := [[36, 40], [36, 123], [34, 36, 40], [36, 40, 40]]
def shuts : List Txt := [[41], [125], [41, 34], [41, 41]]
theorem strs_cell {g : Nat} {l : List Txt} (hr : Row w g 9 ⟨strs l⟩) {k : Nat} (hk : k < l.length) : w.cell? ((Addr.mk g 0 none).add (k * 1)) = some (.string (S l[k])) := by
  rw [Nat.mul_one, add_row, Nat.zero_add]
  refine hr.cellv ?_
  simp [strs, hk]
theorem LexerDeep_spec (n kind : Int) (hn0 : 0 ≤ n) (hn1 : n < 256) (hk0 : 0 ≤ kind) (hk1 : kind < 256) : Calls Try.prog fn_law07_LexerDeep #[.int .u8 n, .int .u8 kind] w (fun e w' => e = .returned (.bool true) ∧ Still w w') := by
  obtain ⟨n, rfl⟩ := Int.eq_ofNat_of_zero_le hn0
  obtain ⟨k, rfl⟩ := Int.eq_ofNat_of_zero_le hk0
  refine law07_LexerDeep_calls _ _ _ _ ?_
  unfold vc_law07_LexerDeep
  have hr1 : Row (w.alloc (.cells ⟨strs opens⟩ 9)) w.heap.size 9 ⟨strs opens⟩ := Row.new _ _ _
  have s1 : (w.alloc (.cells ⟨strs opens⟩ 9)).heap.size = w.heap.size + 1 := World.size_alloc ..
  have hr2 := Row.new (w.alloc (.cells ⟨strs opens⟩ 9)) 9 ⟨strs shuts⟩
  have hst : Still w ((w.alloc (.cells ⟨strs opens⟩ 9)).alloc (.cells ⟨strs shuts⟩ 9)) := ((Mod.refl _ _).alloc _).alloc _
  have hr1 := hr1.alloc (.cells ⟨strs shuts⟩ 9)
  have e4 : Int.tmod (IntKind.i64.wrap ((k : Nat) : Int)) 4 = ((k % 4 : Nat) : Int) := by
    rw [wrap_i64 (by omega) (by omega), Int.tmod_eq_emod_of_nonneg (by omega)]
    exact (Int.natCast_emod _ _).symm
  have e30 : IntKind.i64.wrap (10 + Int.tmod (IntKind.i64.wrap ((n : Nat) : Int)) 30) = ((10 + n % 30 : Nat) : Int) := by
    rw [wrap_i64 (n := ((n : Nat) : Int)) (by omega) (by omega), Int.tmod_eq_emod_of_nonneg (by omega), wrap_i64 (by omega) (by omega)]
    omega
  have hk : k % 4 < 4 := Nat.mod_lt _ (by decide)
  have hn : n % 30 < 30 := Nat.mod_lt _ (by decide)
  have hko : k % 4 < opens.length := hk
  have hks : k % 4 < shuts.length := hk
  have lo : ∀ t ∈ opens, t.length ≤ 3 := by decide
  have ls : ∀ t ∈ shuts, t.length ≤ 3 := by decide
  have ho := lo _ (List.getElem_mem hko)
  have hs := ls _ (List.getElem_mem hks)
  rw [e4, e30, Int.toNat_natCast]
  refine ⟨by decide, fun s i w1 => ∃ j : Nat, i = (j : Int) ∧ j ≤ 10 + n % 30 ∧ s.length ≤ j * 3 ∧ w1 = (w.alloc (.cells ⟨strs opens⟩ 9)).alloc (.cells ⟨strs shuts⟩ 9), fun _ i _ => 50 - i.toNat, ⟨0, rfl, Nat.zero_le _, Nat.le_refl _, rfl⟩, ?_⟩
  rintro s _ _ w1 ⟨j, rfl, hj, hsl, rfl⟩
  have e1 : ∀ j : Nat, j < 1000 → IntKind.i64.wrap ((j : Int) + 1) = ((j + 1 : Nat) : Int) := by
    intro j hj
    rw [wrap_i64 (by omega) (by omega)]
    omega
  refine bsel_of (fun hx => ?_) (fun hx => ?_)
  · have hx : j < 10 + n % 30 := by have := of_decide_eq_true hx; omega
    refine ⟨by decide, by omega, by omega, _, strs_cell hr1 hko, by omega, ⟨j + 1, e1 j (by omega), hx, by rw [List.length_append]; omega, rfl⟩, ?_⟩
    rw [e1 j (by omega)]
    dsimp only
    omega
  refine ⟨fun s i w1 => ∃ j : Nat, i = (j : Int) ∧ j ≤ 10 + n % 30 ∧ s.length ≤ 200 + j * 3 ∧ w1 = (w.alloc (.cells ⟨strs opens⟩ 9)).alloc (.cells ⟨strs shuts⟩ 9), fun _ i _ => 50 - i.toNat, ⟨0, rfl, Nat.zero_le _, by omega, rfl⟩, ?_⟩
  rintro s _ _ w2 ⟨j, rfl, hj, hsl, rfl⟩
  refine bsel_of (fun hx => ?_) (fun hx => both_spec s (R := fun e w' => e = .returned (.bool true) ∧ Still w w') fun w' h' => ⟨rfl, hst.trans h'⟩)
  have hx : j < 10 + n % 30 := by have := of_decide_eq_true hx; omega
  refine ⟨by decide, by omega, by omega, _, strs_cell hr2 hks, by omega, ⟨j + 1, e1 j (by omega), hx, by rw [List.length_append]; omega, rfl⟩, ?_⟩
  rw [e1 j (by omega)]
  dsimp only
  omega
end Go.Proofs.Ytiaonlaodcmigaa
