/- The lexer's reference: tokens; when two lists of tokens are the same. Conditions: none on the text's length but the program's own. -/
import Derived.Test.YtiaonlaodcmigaaLexRef
namespace Go.Proofs.Ytiaonlaodcmigaa
open Go.RowKit Vc
variable {w : World}

theorem ref_ends_spec (c : UInt8) : Calls Try.prog fn_ref07_ends #[.int .u8 (c.toNat : Int)] w (fun e w' => e = .returned (.bool (isEnd c)) ∧ w' = w) := by
  refine ref07_ends_calls _ _ _ ?_
  have hb : ∀ k : UInt8, decide ((c.toNat : Int) = (k.toNat : Int)) = (c == k) := by
    intro k
    rw [Bool.eq_iff_iff, decide_eq_true_iff, beq_iff_eq]
    exact byte_eq
  have h1 := hb 32
  have h2 := hb 9
  have h3 := hb 10
  have h4 := hb 59
  have h5 := hb 124
  have h6 := hb 38
  have h7 := hb 40
  have h8 := hb 41
  have h9 := hb 60
  have h10 := hb 62
  refine ⟨fun x w1 => x = isEnd c ∧ w1 = w, ?_, ?_⟩
  · have k1 : decide ((c.toNat : Int) = 32) = (c == 32) := h1
    have k2 : decide ((c.toNat : Int) = 9) = (c == 9) := h2
    have k3 : decide ((c.toNat : Int) = 10) = (c == 10) := h3
    have k4 : decide ((c.toNat : Int) = 59) = (c == 59) := h4
    have k5 : decide ((c.toNat : Int) = 124) = (c == 124) := h5
    have k6 : decide ((c.toNat : Int) = 38) = (c == 38) := h6
    have k7 : decide ((c.toNat : Int) = 40) = (c == 40) := h7
    have k8 : decide ((c.toNat : Int) = 41) = (c == 41) := h8
    have k9 : decide ((c.toNat : Int) = 60) = (c == 60) := h9
    have k10 : decide ((c.toNat : Int) = 62) = (c == 62) := h10
    rw [k1, k2, k3, k4, k5, k6, k7, k8, k9, k10]
    unfold isEnd
    refine bsel_of (fun h => ⟨by rw [h]; rfl, rfl⟩) (fun g1 => bsel_of (fun h => ⟨by rw [h]; simp, rfl⟩) (fun g2 => bsel_of (fun h => ⟨by rw [h]; simp, rfl⟩) (fun g3 => bsel_of (fun h => ⟨by rw [h]; simp, rfl⟩) (fun g4 => bsel_of (fun h => ⟨by rw [h]; simp, rfl⟩) (fun g5 => bsel_of (fun h => ⟨by rw [h]; simp, rfl⟩) (fun g6 => bsel_of (fun h => ⟨by rw [h]; simp, rfl⟩) (fun g7 => bsel_of (fun h => ⟨by rw [h]; simp, rfl⟩) (fun g8 => bsel_of (fun h => ⟨by rw [h]; simp, rfl⟩) (fun g9 => ⟨?_, rfl⟩)))))))))
    rw [g1, g2, g3, g4, g5, g6, g7, g8, g9]
    rfl
  · rintro x _ w1 ⟨rfl, rfl⟩
    exact bsel_of (fun h => ⟨by rw [h], rfl⟩) (fun h => ⟨by rw [h], rfl⟩)

def signL : List Txt := [[38, 38], [124, 124], [59, 59], [62, 62], [59], [124], [38], [40], [41], [60], [62]]
def strs (l : List Txt) : List Value := l.map fun x => .string (S x)
theorem find_step {l : List Txt} {f : Txt → Bool} {i : Nat} (h : i < l.length) : (l.drop i).find? f = if f l[i] = true then some l[i] else (l.drop (i + 1)).find? f := by
  rw [List.drop_eq_getElem_cons h, List.find?_cons]
  cases f l[i] <;> rfl
theorem ref_sign_spec (s : Txt) (n : Nat) (hn : n ≤ s.length) (hs : s.length < 1000000) : Calls Try.prog fn_ref07_sign #[.string (S s), .int .i64 (n : Int)] w
    (fun e w' => e = .returned (.string (S ((signL.find? fun t => pf t (s.drop n)).getD []))) ∧ Still w w') := by
  refine ref07_sign_calls _ _ _ _ ?_
  have hr : Row (w.alloc (.cells ⟨strs signL⟩ 9)) w.heap.size 9 ⟨strs signL⟩ := Row.new _ _ _
  have hm : Still w (w.alloc (.cells ⟨strs signL⟩ 9)) := (Mod.refl _ _).alloc _
  refine ⟨fun i w1 => ∃ k : Nat, i = (k : Int) ∧ k ≤ 11 ∧ (signL.drop k).find? (fun t => pf t (s.drop n)) = signL.find? (fun t => pf t (s.drop n)) ∧ Row w1 w.heap.size 9 ⟨strs signL⟩ ∧ Still w w1, fun i _ => 11 - i.toNat, ⟨0, rfl, by omega, rfl, hr, hm⟩, ?_⟩
  rintro _ _ w1 ⟨k, rfl, hk, hf, hr1, hm1⟩
  rw [← hf]
  refine bsel_of (fun hx => ?_) (fun hx => ?_)
  · have hx : k < 11 := by have := of_decide_eq_true hx; omega
    have hxl : k < signL.length := hx
    have e1 : IntKind.i64.wrap ((k : Int) + 1) = ((k + 1 : Nat) : Int) := by rw [wrap_i64 (by omega) (by omega)]; omega
    have hc : w1.cell? ((Addr.mk w.heap.size 0 none).add (Int.toNat (k : Int) * 1)) = some (.string (S signL[k])) := by
      rw [Int.toNat_natCast, Nat.mul_one, add_row, Nat.zero_add]
      refine hr1.cellv ?_
      simp [strs, hxl]
    have hl : ∀ t ∈ signL, t.length < 1000000 := by decide
    refine ⟨by omega, by omega, _, hc, (begins_spec s signL[k] n hn hs (hl _ (List.getElem_mem hxl))).mono ?_⟩
    rintro _ w2 ⟨rfl, rfl⟩
    rw [find_step hxl]
    refine .inl ⟨_, rfl, bsel_of (fun h => ⟨by omega, by omega, _, hc, ?_, hm1⟩) (fun h => ?_)⟩
    · rw [if_pos h]
      rfl
    · rw [e1]
      refine ⟨⟨k + 1, rfl, hx, ?_, hr1, hm1⟩, by dsimp only; omega⟩
      rw [if_neg (by rw [h]; decide)]
  · have hx : k = 11 := by have := of_decide_eq_false hx; omega
    subst hx
    exact ⟨rfl, hm1⟩
theorem pf_one (x a : UInt8) (r : Txt) : pf [x] (a :: r) = (a == x) := by
  unfold pf
  rw [Bool.eq_iff_iff, decide_eq_true_iff, beq_iff_eq]
  simp
theorem pf_pair (x y a b : UInt8) (r : Txt) : pf [x, y] (a :: b :: r) = (a == x && b == y) := by
  unfold pf
  rw [Bool.eq_iff_iff, decide_eq_true_iff, Bool.and_eq_true, beq_iff_eq, beq_iff_eq]
  simp
theorem pf_short (x y a : UInt8) : pf [x, y] [a] = false := rfl
theorem sign_is {a : UInt8} {r : Txt} (h1 : isEnd a = true) (h2 : a ≠ 32) (h3 : a ≠ 9) (h4 : a ≠ 10) : (signL.find? fun t => pf t (a :: r)).getD [] = (a :: r).take (opLen (a :: r)) := by
  simp only [isEnd, Bool.or_eq_true, beq_iff_eq] at h1
  cases r with
  | nil =>
    simp only [signL, List.find?_cons, pf_one, pf_short]
    rcases h1 with ((((((((h | h) | h) | h) | h) | h) | h) | h) | h) | h <;> subst h <;> first | exact absurd rfl h2 | exact absurd rfl h3 | exact absurd rfl h4 | rfl
  | cons b t =>
    have hopn : opLen (a :: b :: t) = if a = b ∧ ([38, 124, 59, 62] : Txt).contains a = true then 2 else 1 := rfl
    rw [hopn]
    simp only [signL, List.find?_cons, pf_one, pf_pair]
    by_cases hb : a = b
    · subst hb
      rcases h1 with ((((((((h | h) | h) | h) | h) | h) | h) | h) | h) | h <;> subst h <;> first | exact absurd rfl h2 | exact absurd rfl h3 | exact absurd rfl h4 | rfl
    · rw [if_neg (fun h => hb h.1)]
      have hb' : ∀ k, a = k → (b == k) = false := by
        intro k hk
        subst hk
        rw [beq_eq_false_iff_ne]
        exact fun e => hb e.symm
      rcases h1 with ((((((((h | h) | h) | h) | h) | h) | h) | h) | h) | h <;> first | exact absurd h h2 | exact absurd h h3 | exact absurd h h4 | (have hk := hb' _ h; subst h; simp [hk])
end Go.Proofs.Ytiaonlaodcmigaa
