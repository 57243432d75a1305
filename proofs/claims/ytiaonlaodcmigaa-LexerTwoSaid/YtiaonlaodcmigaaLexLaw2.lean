/- The lexer's two theorems, at the walk's level. Conditions: as each theorem names them. -/
import Derived.Test.YtiaonlaodcmigaaLexLaw1
import Derived.Test.YtiaonlaodcmigaaLexThm
namespace Go.Proofs.Ytiaonlaodcmigaa
open Go.RowKit Vc
variable {w : World}

theorem tc_length (l : List Tok) : (tc l).length = l.length * 2 := by
  induction l with
  | nil => rfl
  | cons a l ih =>
    have e : tc (a :: l) = [.int .i64 (a.1 : Int), .string (S a.2)] ++ tc l := rfl
    rw [e, List.length_append, ih]
    simp
    omega
theorem tc_one (l : List Tok) : ∀ u ∈ tc l, u.oneCell' = true := by
  intro u hu
  simp only [tc, List.mem_flatMap] at hu
  obtain ⟨x, _, hx⟩ := hu
  exact two_one u hx
theorem TokAt.of {B n : Nat} {p : Option Addr} {C : Nat} {l : List Tok} (h : Owns w B 35 2 (.slice p n C) n (tc l)) : TokAt w p n l := by
  have h1 := h.length
  rw [tc_length] at h1
  obtain rfl : n = l.length := by omega
  exact TokAt.of_owns h
theorem tokRes_ok {s : Txt} {l : List Tok} (hs : s.length ≤ 20000) (h : toks s = some l) : tokRes s = (l, 0) := by
  unfold tokRes
  rw [if_neg (by omega), h]
theorem tokRes_no {s : Txt} (hs : s.length ≤ 20000) (h : toks s = none) : tokRes s = ([], 80) := by
  unfold tokRes
  rw [if_neg (by omega), h]
theorem glue_app (l k : List Tok) : glue (l ++ k) = glue l ++ glue k := by simp [glue]
theorem glue_take (l : List Tok) (j : Nat) : (glue (l.take j)).length ≤ (glue l).length := by
  conv => rhs; rw [← List.take_append_drop j l, glue_app, List.length_append]
  omega
theorem toks_few {s : Txt} {l : List Tok} (h : toks s = some l) : l.length ≤ s.length := tokL_few _ _ _ h
theorem LexerAgain_spec (raw : List UInt8) (q : Option Addr) (qL qC : Nat) (hq : U8s w q qL) (small : Bool) : Calls Try.prog fn_law07_LexerAgain #[.string (S raw), .slice q qL qC, .bool small] w (fun e w' => e = .returned (.bool true) ∧ Still w w') := by
  refine law07_LexerAgain_calls _ _ _ _ _ _ _ ?_
  refine awake_spec.mono ?_
  rintro _ w1 ⟨rfl, h1⟩
  refine .inl ⟨_, rfl, bsel_of (fun h => by cases h) (fun _ => ⟨fun s w4 => Still w w4, bsel_of (fun _ => signs_spec.mono ?_) (fun _ => h1), ?_⟩)⟩
  · rintro _ w2 ⟨g, rfl, hr, h2⟩
    refine .inl ⟨_, _, _, rfl, (pieces_of (hq.still (h1.trans h2)) hr (by decide) (by decide) (by decide)).mono ?_⟩
    rintro _ w3 ⟨s, rfl, hs, rfl⟩
    exact .inl ⟨_, rfl, h1.trans h2⟩
  rintro s _ w4 h4
  refine bsel_of (fun _ => ⟨rfl, h4⟩) (fun hs => (tokens_spec s).mono ?_)
  have hs : s.length ≤ 1000 := by have := of_decide_eq_false hs; omega
  cases ht : toks s with
  | none =>
    rw [tokRes_no (by omega) ht]
    rintro _ w5 ⟨p, C, rfl, _, h5⟩
    exact .inl ⟨_, _, _, _, rfl, bsel_of (fun _ => ⟨rfl, h4.trans h5⟩) (fun h => by cases h)⟩
  | some l =>
    rw [tokRes_ok (by omega) ht]
    rintro _ w5 ⟨p, C, rfl, ho, h5⟩
    have hl := toks_few ht
    obtain ⟨hg, ha⟩ := toks_again _ s (Nat.le_refl _) l ht
    have hat := TokAt.of_owns ho
    refine .inl ⟨_, _, _, _, rfl, bsel_of (fun h => by cases h) (fun _ => ⟨fun t i w6 => ∃ j : Nat, i = (j : Int) ∧ j ≤ l.length ∧ t = glue (l.take j) ∧ w6 = w5, fun _ i _ => l.length - i.toNat, ⟨0, rfl, Nat.zero_le _, rfl, rfl⟩, ?_⟩)⟩
    rintro _ _ _ w6 ⟨j, rfl, hj, rfl, rfl⟩
    have e1 : IntKind.i64.wrap ((j : Int) + 1) = ((j + 1 : Nat) : Int) := by rw [wrap_i64 (by omega) (by omega)]; omega
    rw [e1]
    refine bsel_of (fun hx => ?_) (fun hx => ?_)
    · have hx : j < l.length := by have := of_decide_eq_true hx; dsimp only at this; omega
      have hlj : l[j]? = some l[j] := List.getElem?_eq_getElem hx
      obtain ⟨a, rfl, _, hc⟩ := hat.2 j _ hlj
      have e2 : glue (l.take j) ++ l[j].2 ++ [32] = glue (l.take (j + 1)) := by
        rw [List.take_add_one, hlj, glue_app]
        simp [glue]
      have hlen := glue_take l (j + 1)
      rw [← e2, List.length_append, List.length_append] at hlen
      simp only [List.length_cons, List.length_nil] at hlen
      refine ⟨by omega, by dsimp only; omega, _, by rw [Int.toNat_natCast]; exact hc, by omega, by rw [List.length_append]; simp only [List.length_cons, List.length_nil]; omega, ⟨j + 1, rfl, hx, e2, rfl⟩, by dsimp only; omega⟩
    · have hx : j = l.length := by have := of_decide_eq_false hx; dsimp only at this; omega
      subst hx
      rw [List.take_length]
      refine (tokens_spec (glue l)).mono ?_
      rw [tokRes_ok (by omega) (toks_glue l ha)]
      rintro _ w7 ⟨p', C', rfl, ho', h7⟩
      refine .inl ⟨_, _, _, _, rfl, bsel_of (fun _ => bsel_of (fun _ => ?_) (fun h => by cases h)) (fun h => by cases h)⟩
      refine (same_spec (hat.still h7) (TokAt.of_owns ho') (by dsimp only; omega)).mono ?_
      rintro _ w8 ⟨rfl, h8⟩
      refine .inl ⟨_, rfl, ?_, ((h4.trans h5).trans h7).trans h8⟩
      rw [decide_eq_true rfl]
def others : List Txt := [[120], [32], [124], [39, 121, 32, 122, 39], [35]]
theorem LexerTwo_spec (s t : List UInt8) (q : Option Addr) (qL qC : Nat) (hq : U8s w q qL) (small : Bool) : Calls Try.prog fn_law07_LexerTwo #[.string (S s), .string (S t), .slice q qL qC, .bool small] w (fun e w' => e = .returned (.bool true) ∧ Still w w') := by
  refine law07_LexerTwo_calls _ _ _ _ _ _ _ _ ?_
  refine awake_spec.mono ?_
  rintro _ w1 ⟨rfl, h1⟩
  refine .inl ⟨_, rfl, bsel_of (fun h => by cases h) (fun _ => ⟨fun s t w4 => Still w w4, bsel_of (fun _ => signs_spec.mono ?_) (fun _ => h1), ?_⟩)⟩
  · rintro _ w2 ⟨g, rfl, hr, h2⟩
    refine .inl ⟨_, _, _, rfl, (pieces_of (hq.still (h1.trans h2)) hr (by decide) (by decide) (by decide)).mono ?_⟩
    rintro _ w3 ⟨s, rfl, hs, rfl⟩
    have hst : Still w3 (w3.alloc (.cells ⟨strs others⟩ 9)) := (Mod.refl _ _).alloc _
    refine .inl ⟨_, rfl, (pieces_of (sg := others) (hq.still ((h1.trans h2).trans hst)) (Row.new _ _ _) (by decide) (by decide) (by decide)).mono ?_⟩
    rintro _ w4 ⟨t, rfl, ht, rfl⟩
    exact .inl ⟨_, rfl, (h1.trans h2).trans hst⟩
  rintro s t _ w5 h5
  refine bsel_of (fun _ => ⟨rfl, h5⟩) (fun hs => bsel_of (fun _ => ⟨rfl, h5⟩) (fun ht => (tokens_spec s).mono ?_))
  have hs : s.length ≤ 500 := by have := of_decide_eq_false hs; omega
  have ht : t.length ≤ 500 := by have := of_decide_eq_false ht; omega
  rintro _ w6 ⟨p, C, rfl, ho, h6⟩
  refine .inl ⟨_, _, _, _, rfl, (tokens_spec t).mono ?_⟩
  rintro _ w7 ⟨p', C', rfl, ho', h7⟩
  refine .inl ⟨_, _, _, _, rfl, bsel_of (fun _ => ⟨rfl, (h5.trans h6).trans h7⟩) (fun hs0 => bsel_of (fun _ => ⟨rfl, (h5.trans h6).trans h7⟩) (fun ht0 => ?_))⟩
  obtain ⟨l, hl, rs⟩ : ∃ l, toks s = some l ∧ tokRes s = (l, 0) := by
    cases h : toks s with
    | none => rw [tokRes_no (by omega) h] at hs0; cases hs0
    | some l => exact ⟨l, rfl, tokRes_ok (by omega) h⟩
  obtain ⟨k, hk, rt⟩ : ∃ k, toks t = some k ∧ tokRes t = (k, 0) := by
    cases h : toks t with
    | none => rw [tokRes_no (by omega) h] at ht0; cases ht0
    | some l => exact ⟨l, rfl, tokRes_ok (by omega) h⟩
  have hll := toks_few hl
  have hkl := toks_few hk
  rw [rs] at ho ⊢
  rw [rt] at ho' ⊢
  dsimp only at ho ho' ⊢
  simp only [Nat.zero_add]
  have h57 := (h5.trans h6).trans h7
  have ho := ho.mod h7 (fun _ _ h => h)
  have src : ∀ {W : World} {B : Nat} {p : Option Addr} {C : Nat} {l : List Tok}, Owns W B 35 2 (.slice p l.length C) l.length (tc l) → 0 < l.length → ∃ a : Addr, p = some a ∧ ∀ (j : Nat) (u : Value), (tc l)[j]? = some u → W.cell? (a.add j) = some u := by
    intro W B p C l h hn
    obtain ⟨g, cap, he, _, _, _, hc⟩ := h.ownAddr hn
    injection he with e1 e2 e3
    subst e1
    refine ⟨_, rfl, fun j u hu => ?_⟩
    rw [add_row, Nat.zero_add]
    exact hc j u hu
  refine ⟨[], tc l, Owns.nil _ _ _ _, tc_length l, tc_one l, src ho, by omega, by omega, fun p1 C1 w8 ho8 hg8 hb8 => ?_⟩
  rw [List.nil_append] at ho8
  have hb8 : ∀ g, Value.ownBlock (Value.slice p1 l.length C1) = some g → w7.heap.size = g := by
    intro g hg
    rcases hb8 with h | h
    · rw [h] at hg; cases hg
    · rw [h] at hg; exact Option.some.inj hg
  have h8 : Still w w8 := h57.grown hg8 (fun g h => by cases h)
  have s8 := hg8.size
  have s57 := h57.size
  have ho8' : Owns w8 w6.heap.size 35 2 (.slice p' k.length C') k.length (tc k) := ho'.grown hg8 (fun g _ h => by cases h)
  refine ⟨tc l, [.int .i64 2, .string (S [10])], ho8.alloc _, rfl, two_one, pair_src _ _ _ _, by omega, by omega, fun p2 C2 w9 ho9 hg9 hb9 => ?_⟩
  have hb9 : ∀ g, Value.ownBlock (Value.slice p2 (l.length + 1) C2) = some g → w7.heap.size ≤ g := by
    intro g hg
    rcases hb9 with h | h
    · rw [h] at hg; exact Nat.le_of_eq (hb8 g hg)
    · rw [h, World.size_alloc] at hg
      have := Option.some.inj hg
      omega
  have h9 : Still w w9 := (h8.alloc _).grown hg9 (fun g h => .inr (by have := hb8 g h; omega))
  have ho9' : Owns w9 w6.heap.size 35 2 (.slice p' k.length C') k.length (tc k) := (ho8'.alloc _).grown hg9 (fun g hg h => by
    have h1 := hb8 g h.symm
    have h2 := (ho'.lt g hg).2
    omega)
  refine ⟨_, tc k, ho9, tc_length k, tc_one k, src ho9', by omega, by omega, fun p3 C3 w10 ho10 hg10 hb10 => ?_⟩
  have h10 : Still w w10 := h9.grown hg10 (fun g h => .inr (by have := hb9 g h; omega))
  have e3 : tc l ++ [.int .i64 2, .string (S [10])] ++ tc k = tc (l ++ [(2, [10])] ++ k) := by
    rw [tc_append, tc_append]
    rfl
  rw [e3] at ho10
  have hw := TokAt.of ho10
  have hwl := hw.1
  refine ⟨by simp only [List.length_cons, List.length_nil]; omega, by simp only [List.length_cons, List.length_nil, List.length_append]; omega, (tokens_spec (s ++ [10] ++ t)).mono ?_⟩
  rw [tokRes_ok (by simp only [List.length_cons, List.length_nil, List.length_append]; omega) (toks_line s t hl hk)]
  rintro _ w11 ⟨p4, C4, rfl, ho11, h11⟩
  refine .inl ⟨_, _, _, _, rfl, by simp only [List.length_cons, List.length_nil]; omega, by simp only [List.length_cons, List.length_nil, List.length_append]; omega, (tokens_spec (s ++ [32, 35, 32, 39, 32, 40, 32, 10] ++ t)).mono ?_⟩
  rw [tokRes_ok (by simp only [List.length_cons, List.length_nil, List.length_append]; omega) (toks_comment s t hl hk)]
  rintro _ w12 ⟨p5, C5, rfl, ho12, h12⟩
  refine .inl ⟨_, _, _, _, rfl, bsel_of (fun _ => bsel_of (fun _ => bsel_of (fun _ => ?_) (fun h => by cases h)) (fun h => by cases h)) (fun h => by cases h)⟩
  have hw12 := (hw.still h11).still h12
  refine (same_spec ((TokAt.of_owns ho11).still h12) hw12 (by dsimp only; omega)).mono ?_
  rintro _ w13 ⟨rfl, h13⟩
  refine .inl ⟨_, rfl, bsel_of (fun _ => ?_) (fun h => by rw [decide_eq_true rfl] at h; cases h)⟩
  refine (same_spec ((TokAt.of_owns ho12).still h13) (hw12.still h13) (by dsimp only; omega)).mono ?_
  rintro _ w14 ⟨rfl, h14⟩
  refine .inl ⟨_, rfl, ?_, (((h10.trans h11).trans h12).trans h13).trans h14⟩
  rw [decide_eq_true rfl]
end Go.Proofs.Ytiaonlaodcmigaa
