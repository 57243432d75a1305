/- The patterns' reference: Escape, Plain, Special, a set, a piece. Conditions: texts and patterns have fewer than a million bytes. -/
import Derived.Test.YtjkbpdhpmcndlaaPatRest
namespace Go.Proofs.Ytjkbpdhpmcndlaa
open Go.RowKit Vc
variable {w : World}

theorem byte_at {p : List UInt8} {i : Nat} (h : i < p.length) : (p.drop i).take (i + 1 - i) = [p[i]] := by
  rw [List.drop_eq_getElem_cons h, show i + 1 - i = 1 by omega]
  rfl
theorem ref_escape_spec (s : List UInt8) (hs : s.length < 1000000) : Calls Try.prog fn_ref11_Escape #[.string (S s)] w (fun e w' => e = .returned (.string (S (escape s))) ∧ w' = w) := by
  refine ref11_Escape_calls _ _ _ ?_
  refine ⟨fun out x w1 => ∃ i : Nat, x = (i : Int) ∧ i ≤ s.length ∧ out = escape (s.take i) ∧ w1 = w, fun _ x _ => s.length - x.toNat, ⟨0, rfl, by omega, rfl, rfl⟩, ?_⟩
  rintro _ _ _ w1 ⟨i, rfl, hi, rfl, rfl⟩
  have e1 : IntKind.i64.wrap ((i : Int) + 1) = ((i + 1 : Nat) : Int) := by rw [wrap_i64 (by omega) (by omega)]; omega
  refine bsel_of (fun hx => ?_) (fun hx => ?_)
  · have hx : i < s.length := by have := of_decide_eq_true hx; omega
    have hl := escape_length (s.take i)
    have hl2 : (s.take i).length = i := by simp; omega
    rw [e1, Int.toNat_natCast, Int.toNat_natCast, byte_at hx]
    refine ⟨by simp; omega, by omega, by omega, by omega, by simp; omega, ⟨i + 1, rfl, hx, ?_, rfl⟩, by dsimp only; omega⟩
    rw [List.take_add_one, List.getElem?_eq_getElem hx, Option.toList_some, escape_snoc]
    simp
  · have hx : i = s.length := by have := of_decide_eq_false hx; omega
    subst hx
    exact ⟨by rw [List.take_length], rfl⟩

/-- Where the byte at a place stands: behind its backslash. -/
def onAt (p : List UInt8) (i : Nat) : Nat := if p.getD i 0 = 92 ∧ i + 1 < p.length then i + 1 else i
theorem onAt_lt {p : List UInt8} {i : Nat} (h : i < p.length) : onAt p i < p.length := by unfold onAt; split <;> omega
theorem single_drop {p : List UInt8} {i : Nat} (h : i < p.length) : single (p.drop i) = (p.getD (onAt p i) 0, p.drop (onAt p i + 1)) := by
  have hg : p.getD i 0 = p[i] := by rw [List.getD_eq_getElem?_getD, List.getElem?_eq_getElem h]; rfl
  rw [List.drop_eq_getElem_cons h]
  unfold onAt
  rw [hg]
  rcases Nat.lt_or_ge (i + 1) p.length with h1 | h1
  · rw [List.drop_eq_getElem_cons h1]
    simp only [single]
    by_cases ha : p[i] = 92
    · rw [if_pos ha, if_pos ⟨ha, h1⟩]
      have : p.getD (i + 1) 0 = p[i + 1] := by rw [List.getD_eq_getElem?_getD, List.getElem?_eq_getElem h1]; rfl
      rw [this]
    · rw [if_neg ha, if_neg (fun h => ha h.1), hg, List.drop_eq_getElem_cons h1]
  · rw [List.drop_of_length_le h1, if_neg (fun h => by omega), hg, List.drop_of_length_le h1]
    rfl
theorem getD_some {p : List UInt8} {i : Nat} (h : i < p.length) : p[i]? = some (p.getD i 0) := by
  rw [List.getD_eq_getElem?_getD, List.getElem?_eq_getElem h]; rfl
theorem byte_eq {a b : UInt8} : ((a.toNat : Int) = (b.toNat : Int)) ↔ a = b := ⟨fun h => UInt8.toNat_inj.1 (Int.ofNat_inj.1 h), fun h => by rw [h]⟩

theorem ref_plain_spec (p : List UInt8) (hp : p.length < 1000000) : Calls Try.prog fn_ref11_Plain #[.string (S p)] w (fun e w' => e = .returned (.string (S (plain p))) ∧ w' = w) := by
  refine ref11_Plain_calls _ _ _ ?_
  have hpl := plain_length p
  refine ⟨fun out x w1 => ∃ i : Nat, x = (i : Int) ∧ i ≤ p.length ∧ out ++ plain (p.drop i) = plain p ∧ w1 = w, fun _ x _ => p.length - x.toNat, ⟨0, rfl, by omega, rfl, rfl⟩, ?_⟩
  rintro out _ _ w1 ⟨i, rfl, hi, ho, rfl⟩
  have e1 : IntKind.i64.wrap ((i : Int) + 1) = ((i + 1 : Nat) : Int) := by rw [wrap_i64 (by omega) (by omega)]; omega
  refine bsel_of (fun hx => ?_) (fun hx => ?_)
  · have hx : i < p.length := by have := of_decide_eq_true hx; omega
    have hon := onAt_lt hx
    have hne : p.drop i ≠ [] := by rw [List.drop_eq_getElem_cons hx]; exact List.cons_ne_nil _ _
    have hst := plain_step hne
    rw [single_drop hx] at hst
    have hol : out.length ≤ p.length := by
      have : (out ++ plain (p.drop i)).length = (plain p).length := by rw [ho]
      simp at this
      omega
    have hle : i ≤ onAt p i := by unfold onAt; split <;> omega
    rw [e1]
    refine ⟨fun out1 i2 w3 => i2 = (onAt p i : Int) ∧ out1 = out ++ [p.getD (onAt p i) 0] ∧ w3 = w1, ⟨fun i1 w2 => i1 = (onAt p i : Int) ∧ w2 = w1, ⟨by omega, p.getD i 0, by rw [Int.toNat_natCast]; exact getD_some hx, ?_⟩, ?_⟩, ?_⟩
    · refine bsel_of (fun ha => bsel_of (fun hb => ⟨?_, rfl⟩) (fun hb => ⟨?_, rfl⟩)) (fun ha => ⟨?_, rfl⟩)
      · have ha : p.getD i 0 = 92 := byte_eq.1 (of_decide_eq_true ha)
        unfold onAt
        rw [if_pos ⟨ha, by have := of_decide_eq_true hb; omega⟩]
      · unfold onAt
        rw [if_neg (fun h => by have := of_decide_eq_false hb; omega)]
      · unfold onAt
        rw [if_neg (fun h => of_decide_eq_false ha (byte_eq.2 h.1))]
    · rintro _ _ w2 ⟨rfl, rfl⟩
      have e2 : IntKind.i64.wrap ((onAt p i : Int) + 1) = ((onAt p i + 1 : Nat) : Int) := by rw [wrap_i64 (by omega) (by omega)]; omega
      rw [e2, Int.toNat_natCast, Int.toNat_natCast, byte_at hon]
      refine ⟨by omega, by omega, by omega, by simp; omega, rfl, ?_, rfl⟩
      rw [List.getD_eq_getElem?_getD, List.getElem?_eq_getElem hon]
      rfl
    · rintro _ _ _ w3 ⟨rfl, rfl, rfl⟩
      have e2 : IntKind.i64.wrap ((onAt p i : Int) + 1) = ((onAt p i + 1 : Nat) : Int) := by rw [wrap_i64 (by omega) (by omega)]; omega
      rw [e2]
      refine ⟨⟨onAt p i + 1, rfl, hon, ?_, rfl⟩, by dsimp only; omega⟩
      rw [← ho, hst]
      simp
  · have hx : i = p.length := by have := of_decide_eq_false hx; omega
    subst hx
    rw [List.drop_of_length_le (Nat.le_refl _)] at ho
    exact ⟨by rw [← ho]; simp [plain], rfl⟩

theorem ref_special_spec (p : List UInt8) (hp : p.length < 1000000) : Calls Try.prog fn_ref11_Special #[.string (S p)] w (fun e w' => e = .returned (.bool (special p)) ∧ w' = w) := by
  refine ref11_Special_calls _ _ _ ?_
  refine ⟨fun x w1 => ∃ i : Nat, x = (i : Int) ∧ i ≤ p.length + 1 ∧ special (p.drop i) = special p ∧ w1 = w, fun x _ => p.length + 1 - x.toNat, ⟨0, rfl, by omega, rfl, rfl⟩, ?_⟩
  rintro _ _ w1 ⟨i, rfl, hi, ho, rfl⟩
  refine bsel_of (fun hx => ?_) (fun hx => ?_)
  · have hx : i < p.length := by have := of_decide_eq_true hx; omega
    have e1 : IntKind.i64.wrap ((i : Int) + 1) = ((i + 1 : Nat) : Int) := by rw [wrap_i64 (by omega) (by omega)]; omega
    have e2 : IntKind.i64.wrap (((i + 1 : Nat) : Int) + 1) = ((i + 2 : Nat) : Int) := by rw [wrap_i64 (by omega) (by omega)]; omega
    have hg : p.getD i 0 = p[i] := by rw [List.getD_eq_getElem?_getD, List.getElem?_eq_getElem hx]; rfl
    have hsp : special (p.drop i) = (isSign p[i] || special (p.drop (onAt p i + 1))) := by
      have := single_drop hx
      rw [List.drop_eq_getElem_cons hx] at this ⊢
      rw [special_step, this]
    rw [e1, e2, ← ho, hsp]
    refine ⟨by omega, p[i], by rw [Int.toNat_natCast]; exact List.getElem?_eq_getElem hx, bsel_of (fun ha => ?_) (fun ha => ?_)⟩
    · have ha : p[i] = 92 := byte_eq.1 (of_decide_eq_true ha)
      refine ⟨⟨i + 2, rfl, by omega, ?_, rfl⟩, by dsimp only; omega⟩
      rw [ha, show isSign 92 = false from rfl, Bool.false_or]
      unfold onAt
      rcases Nat.lt_or_ge (i + 1) p.length with h1 | h1
      · rw [if_pos ⟨by rw [hg]; exact ha, h1⟩]
      · rw [if_neg (fun h => by omega), List.drop_of_length_le (l := p) (i := i + 1) h1, List.drop_of_length_le (by omega)]
    · have ha : ¬ p[i] = 92 := fun h => of_decide_eq_false ha (byte_eq.2 h)
      have hon : onAt p i = i := by
        unfold onAt
        rw [if_neg (fun h => ha (by rw [← hg]; exact h.1))]
      rw [hon]
      refine bsel_of (fun h42 => ?_) (fun h42 => ?_)
      · have h : p[i] = 42 := byte_eq.1 (of_decide_eq_true h42)
        refine bsel_of (fun _ => ⟨by rw [h]; rfl, rfl⟩) (fun h2 => absurd h42 (by rw [h2]; decide))
      · have h42 : ¬ p[i] = 42 := fun h => of_decide_eq_false h42 (byte_eq.2 h)
        refine bsel_of (fun h63 => ?_) (fun h63 => ?_)
        · have h : p[i] = 63 := byte_eq.1 (of_decide_eq_true h63)
          refine bsel_of (fun _ => ⟨by rw [h]; rfl, rfl⟩) (fun h2 => absurd h63 (by rw [h2]; decide))
        · have h63 : ¬ p[i] = 63 := fun h => of_decide_eq_false h63 (byte_eq.2 h)
          refine bsel_of (fun h91 => ?_) (fun h91 => ?_)
          · have h : p[i] = 91 := byte_eq.1 (of_decide_eq_true h91)
            exact ⟨by rw [h]; rfl, rfl⟩
          · have h91 : ¬ p[i] = 91 := fun h => of_decide_eq_false h91 (byte_eq.2 h)
            have hsg : isSign p[i] = false := by simp [isSign, h42, h63, h91]
            exact ⟨⟨i + 1, rfl, by omega, by rw [hsg, Bool.false_or], rfl⟩, by dsimp only; omega⟩
  · have hx : p.length ≤ i := by have := of_decide_eq_false hx; omega
    rw [List.drop_of_length_le hx] at ho
    exact ⟨by rw [← ho]; rfl, rfl⟩

/-- Where what is behind a set's byte ends. -/
def dashes (p : List UInt8) (j : Nat) : Bool := decide (j + 1 < p.length ∧ p.getD j 0 = 45 ∧ p.getD (j + 1) 0 ≠ 93)
theorem dash_drop {p : List UInt8} {j : Nat} (lo : UInt8) : dash lo (p.drop j) = if dashes p j = true then (p.getD (onAt p (j + 1)) 0, p.drop (onAt p (j + 1) + 1)) else (lo, p.drop j) := by
  unfold dashes
  rcases Nat.lt_or_ge (j + 1) p.length with h1 | h1
  · have hg0 : p.getD j 0 = p[j] := by rw [List.getD_eq_getElem?_getD, List.getElem?_eq_getElem (by omega)]; rfl
    have hg1 : p.getD (j + 1) 0 = p[j + 1] := by rw [List.getD_eq_getElem?_getD, List.getElem?_eq_getElem h1]; rfl
    have hs := single_drop h1
    rw [hg0, hg1]
    have hd : p.drop j = p[j] :: p[j + 1] :: p.drop (j + 2) := by rw [List.drop_eq_getElem_cons (by omega), List.drop_eq_getElem_cons h1]
    rw [List.drop_eq_getElem_cons h1] at hs
    rw [hd]
    simp only [dash]
    by_cases hc : p[j] = 45 ∧ p[j + 1] ≠ 93
    · rw [if_pos hc, hs, if_pos (decide_eq_true ⟨h1, hc⟩)]
    · rw [if_neg hc, if_neg (fun h => hc (of_decide_eq_true h).2)]
  · rw [if_neg (fun h => by have := (of_decide_eq_true h).1; omega)]
    rcases Nat.lt_or_ge j p.length with h2 | h2
    · rw [List.drop_eq_getElem_cons h2, List.drop_of_length_le (by omega)]
      rfl
    · rw [List.drop_of_length_le h2]
      rfl
theorem goesOn_drop {p : List UInt8} {i : Nat} {f : Bool} : goesOn (p.drop i) f = (decide (i < p.length) && (f || decide (p.getD i 0 ≠ 93))) := by
  rcases Nat.lt_or_ge i p.length with h | h
  · have hg : p.getD i 0 = p[i] := by rw [List.getD_eq_getElem?_getD, List.getElem?_eq_getElem h]; rfl
    rw [List.drop_eq_getElem_cons h, decide_eq_true h, Bool.true_and, hg]
    rfl
  · rw [List.drop_of_length_le h, decide_eq_false (by omega), Bool.false_and]
    rfl
theorem cutNot_drop {p : List UInt8} : cutNot (p.drop 1) = (p.drop (if decide (1 < p.length ∧ p.getD 1 0 = 33) = true then 2 else 1), decide (1 < p.length ∧ p.getD 1 0 = 33)) := by
  rcases Nat.lt_or_ge 1 p.length with h | h
  · have hg : p.getD 1 0 = p[1] := by rw [List.getD_eq_getElem?_getD, List.getElem?_eq_getElem h]; rfl
    rw [hg, List.drop_eq_getElem_cons h]
    simp only [cutNot]
    by_cases h33 : p[1] = 33
    · rw [if_pos h33, decide_eq_true ⟨h, h33⟩]; rfl
    · rw [if_neg h33, decide_eq_false (fun h => h33 h.2)]
      rw [if_neg (by decide), List.drop_eq_getElem_cons h]
  · rw [List.drop_of_length_le (by omega), decide_eq_false (fun h => by omega)]
    rw [if_neg (by decide), List.drop_of_length_le (by omega)]
    rfl

/-- What the reference tells of a set at a pattern's head. -/
def setAns (p : List UInt8) (c : UInt8) : Bool × Nat := match mkSet (p.drop 1) with
  | none => (false, 0)
  | some (S, r) => (S c, p.length - r.length)
theorem ref_set_spec (p : List UInt8) (hp : p.length < 1000000) (h0 : p ≠ []) (c : UInt8) : Calls Try.prog fn_ref11_set #[.string (S p), .int .u8 (c.toNat : Int)] w
    (fun e w' => e = .returned (.tuple #[.bool (setAns p c).1, .int .i64 ((setAns p c).2 : Int)]) ∧ w' = w) := by
  refine ref11_set_calls _ _ _ _ ?_
  have hlen : 0 < p.length := List.length_pos_iff.2 h0
  have hans : setAns p c = match (match setL ((cutNot (p.drop 1)).1.length + 1) (cutNot (p.drop 1)).1 true (fun _ => false) with
    | (_, []) => none
    | (S, _ :: r) => some (fun c => S c != (cutNot (p.drop 1)).2, r)) with
    | none => (false, 0)
    | some (S, r) => (S c, p.length - r.length) := rfl
  rw [hans, cutNot_drop]
  dsimp only
  generalize hneg : decide (1 < p.length ∧ p.getD 1 0 = 33) = neg
  refine ⟨fun x w1 => x = neg ∧ w1 = w, bsel_of (fun h1 => ⟨by decide, p.getD 1 0, getD_some (by have := of_decide_eq_true h1; omega), ?_, rfl⟩) (fun h1 => ⟨?_, rfl⟩), ?_⟩
  · have h1 : 1 < p.length := by have := of_decide_eq_true h1; omega
    rw [← hneg]
    apply decide_eq_decide.2
    exact ⟨fun h => ⟨h1, byte_eq.1 h⟩, fun h => byte_eq.2 h.2⟩
  · have h1 := of_decide_eq_false h1
    rw [← hneg, decide_eq_false (fun h => by omega)]
  rintro x _ w1 ⟨rfl, rfl⟩
  have h2le : x = true → 2 ≤ p.length := fun h => by
    rw [h] at hneg
    have := (of_decide_eq_true hneg).1
    omega
  refine ⟨fun i w2 => i = ((if x = true then 2 else 1 : Nat) : Int) ∧ w2 = w1, bsel_of (fun h => ⟨by rw [h]; rfl, rfl⟩) (fun h => ⟨by rw [h]; rfl, rfl⟩), ?_⟩
  rintro _ _ w2 ⟨rfl, rfl⟩
  have hi0 : (if x = true then 2 else 1) ≤ p.length := by split <;> rename_i h <;> first | exact h2le h | omega
  generalize hi0e : (if x = true then 2 else 1) = i0 at hi0 ⊢
  refine ⟨fun i inx first w3 => ∃ (k n : Nat) (S0 : Set8), i = (k : Int) ∧ k ≤ p.length ∧ (p.drop k).length < n ∧ setL n (p.drop k) first S0 = setL ((p.drop i0).length + 1) (p.drop i0) true (fun _ => false) ∧ inx = S0 c ∧ w3 = w2, fun i _ _ _ => p.length - i.toNat,
    ⟨i0, _, _, rfl, hi0, Nat.lt_succ_self _, rfl, rfl, rfl⟩, ?_⟩
  rintro _ _ first _ w3 ⟨k, n, S0, rfl, hk, hn, hset, rfl, rfl⟩
  have hgd := goesOn_drop (p := p) (i := k) (f := first)
  refine ⟨fun w' => goesOn (p.drop k) first = true ∧ w' = w3, ⟨fun x w' => x = goesOn (p.drop k) first ∧ w' = w3, bsel_of (fun h1 => bsel_of (fun hf => ⟨?_, rfl⟩) (fun hf => ⟨by omega, p.getD k 0, by rw [Int.toNat_natCast]; exact getD_some (by have := of_decide_eq_true h1; omega), ?_, rfl⟩)) (fun h1 => ⟨?_, rfl⟩), ?_⟩, ?_⟩
  · have h1 : k < p.length := by have := of_decide_eq_true h1; omega
    rw [hgd, decide_eq_true h1, hf]
    rfl
  · have h1 : k < p.length := by have := of_decide_eq_true h1; omega
    rw [hgd, decide_eq_true h1, hf, Bool.true_and, Bool.false_or]
    have hd : decide (((p.getD k 0).toNat : Int) = 93) = decide (p.getD k 0 = 93) := decide_eq_decide.2 (byte_eq (b := 93))
    rw [hd]
    by_cases h93 : p.getD k 0 = 93
    · simp [h93]
    · simp [h93]
  · have h1 := of_decide_eq_false h1
    rw [hgd, decide_eq_false (by omega), Bool.false_and]
  · rintro x2 _ w4 ⟨rfl, rfl⟩
    refine bsel_of (fun h => ⟨h, rfl⟩) (fun h => ?_)
    rw [setL_out (by omega) h] at hset
    rw [← hset]
    refine bsel_of (fun hle => ?_) (fun hle => ?_)
    · have hle : p.length ≤ k := by have := of_decide_eq_true hle; omega
      rw [List.drop_of_length_le hle]
      exact ⟨rfl, rfl⟩
    · have hlt : k < p.length := by have := of_decide_eq_false hle; omega
      have e1 : IntKind.i64.wrap ((k : Int) + 1) = ((k + 1 : Nat) : Int) := by rw [wrap_i64 (by omega) (by omega)]; omega
      rw [List.drop_eq_getElem_cons hlt, e1]
      refine ⟨?_, rfl⟩
      have hl : p.length - (p.drop (k + 1)).length = k + 1 := by simp; omega
      have hb : (!(decide (S0 c = x))) = (S0 c != x) := by cases S0 c <;> cases x <;> rfl
      rw [hb]
      dsimp only
      rw [hl]
  · rintro _ w5 ⟨hgo, rfl⟩
    have hlt : k < p.length := by
      rw [hgd, Bool.and_eq_true] at hgo
      exact of_decide_eq_true hgo.1
    have hne : p.drop k ≠ [] := goesOn_ne hgo
    have hon := onAt_lt hlt
    have hsd := single_drop hlt
    have hsl := step_length hne
    obtain ⟨m, rfl⟩ : ∃ m, n = m + 1 := ⟨n - 1, by omega⟩
    rw [setL, if_pos hgo] at hset
    rw [hsd] at hset hsl
    dsimp only at hset hsl
    have hle1 : k ≤ onAt p k := by unfold onAt; split <;> omega
    refine ⟨fun i2 w7 => i2 = (onAt p k : Int) ∧ w7 = w5, ⟨fun x1 w6 => x1 = decide (p.getD k 0 = 92 ∧ k + 1 < p.length) ∧ w6 = w5, ⟨by omega, p.getD k 0, by rw [Int.toNat_natCast]; exact getD_some hlt, ?_⟩, ?_⟩, ?_⟩
    · have e1 : IntKind.i64.wrap ((k : Int) + 1) = ((k + 1 : Nat) : Int) := by rw [wrap_i64 (by omega) (by omega)]; omega
      rw [e1]
      refine bsel_of (fun ha => ⟨?_, rfl⟩) (fun ha => ⟨?_, rfl⟩)
      · have ha : p.getD k 0 = 92 := byte_eq.1 (of_decide_eq_true ha)
        apply decide_eq_decide.2
        exact ⟨fun h => ⟨ha, by omega⟩, fun h => by omega⟩
      · rw [decide_eq_false (fun h => of_decide_eq_false ha (byte_eq.2 h.1))]
    · rintro _ _ w6 ⟨rfl, rfl⟩
      have e1 : IntKind.i64.wrap ((k : Int) + 1) = ((k + 1 : Nat) : Int) := by rw [wrap_i64 (by omega) (by omega)]; omega
      rw [e1]
      refine bsel_of (fun h => ⟨?_, rfl⟩) (fun h => ⟨?_, rfl⟩)
      · unfold onAt; rw [if_pos (of_decide_eq_true h)]
      · unfold onAt; rw [if_neg (of_decide_eq_false h)]
    · rintro _ _ w7 ⟨rfl, rfl⟩
      generalize onAt p k = q at hon hset hsl hle1
      have e1 : IntKind.i64.wrap ((q : Int) + 1) = ((q + 1 : Nat) : Int) := by rw [wrap_i64 (by omega) (by omega)]; omega
      have e2 : IntKind.i64.wrap (((q + 1 : Nat) : Int) + 1) = ((q + 2 : Nat) : Int) := by rw [wrap_i64 (by omega) (by omega)]; omega
      have e3 : IntKind.i64.wrap (((q + 2 : Nat) : Int) + 1) = ((q + 3 : Nat) : Int) := by rw [wrap_i64 (by omega) (by omega)]; omega
      rw [dash_drop] at hset hsl
      rw [e1, e2, e3]
      refine ⟨by omega, p.getD q 0, by rw [Int.toNat_natCast]; exact getD_some hon, ?_⟩
      -- where it goes on, and the last byte
      refine ⟨fun i4 high w11 => ∃ r : Nat, i4 = (r : Int) ∧ r ≤ p.length ∧ k < r ∧ high = ((if dashes p (q + 1) = true then p.getD (onAt p (q + 2)) 0 else p.getD q 0).toNat : Int) ∧ (if dashes p (q + 1) = true then p.drop (onAt p (q + 2) + 1) else p.drop (q + 1)) = p.drop r ∧ w11 = w7,
        ⟨fun x2 w8 => x2 = dashes p (q + 1) ∧ w8 = w7, bsel_of (fun h1 => ⟨by omega, p.getD (q + 1) 0, by rw [Int.toNat_natCast]; exact getD_some (by have := of_decide_eq_true h1; omega), bsel_of (fun h45 => ⟨by omega, p.getD (q + 2) 0, by rw [Int.toNat_natCast]; exact getD_some (by have := of_decide_eq_true h1; omega), ?_, rfl⟩) (fun h45 => ⟨?_, rfl⟩)⟩) (fun h1 => ⟨?_, rfl⟩), ?_⟩, ?_⟩
      · have h1 : q + 1 + 1 < p.length := by have := of_decide_eq_true h1; omega
        have h45 : p.getD (q + 1) 0 = 45 := byte_eq.1 (of_decide_eq_true h45)
        unfold dashes
        have hd : decide (((p.getD (q + 2) 0).toNat : Int) = 93) = decide (p.getD (q + 2) 0 = 93) := decide_eq_decide.2 (byte_eq (b := 93))
        rw [hd]
        by_cases h93 : p.getD (q + 2) 0 = 93
        · rw [decide_eq_true h93, decide_eq_false (fun h => h.2.2 h93)]
          rfl
        · rw [decide_eq_false h93, decide_eq_true ⟨h1, h45, h93⟩]
          rfl
      · unfold dashes
        rw [decide_eq_false (fun h => of_decide_eq_false h45 (byte_eq.2 h.2.1))]
      · unfold dashes
        have h1 := of_decide_eq_false h1
        rw [decide_eq_false (fun h => by omega)]
      · rintro _ _ w8 ⟨rfl, rfl⟩
        refine bsel_of (fun hd => ?_) (fun hd => ?_)
        · have hd1 := (of_decide_eq_true (show decide _ = true from hd)).1
          have hlt2 : q + 2 < p.length := hd1
          have hon2 := onAt_lt hlt2
          have hle2 : q + 2 ≤ onAt p (q + 2) := by unfold onAt; split <;> omega
          refine ⟨fun i3 w10 => i3 = (onAt p (q + 2) : Int) ∧ w10 = w8, ⟨fun x3 w9 => x3 = decide (p.getD (q + 2) 0 = 92 ∧ q + 2 + 1 < p.length) ∧ w9 = w8, ⟨by omega, p.getD (q + 2) 0, by rw [Int.toNat_natCast]; exact getD_some hlt2, bsel_of (fun ha => ⟨?_, rfl⟩) (fun ha => ⟨?_, rfl⟩)⟩, ?_⟩, ?_⟩
          · have ha : p.getD (q + 2) 0 = 92 := byte_eq.1 (of_decide_eq_true ha)
            apply decide_eq_decide.2
            exact ⟨fun h => ⟨ha, by omega⟩, fun h => by omega⟩
          · rw [decide_eq_false (fun h => of_decide_eq_false ha (byte_eq.2 h.1))]
          · rintro _ _ w9 ⟨rfl, rfl⟩
            refine bsel_of (fun h => ⟨?_, rfl⟩) (fun h => ⟨?_, rfl⟩)
            · unfold onAt; rw [if_pos (of_decide_eq_true h)]
            · unfold onAt; rw [if_neg (of_decide_eq_false h)]
          · rintro _ _ w10 ⟨rfl, rfl⟩
            have e4 : IntKind.i64.wrap ((onAt p (q + 2) : Int) + 1) = ((onAt p (q + 2) + 1 : Nat) : Int) := by rw [wrap_i64 (by omega) (by omega)]; omega
            rw [e4, if_pos hd, if_pos hd]
            exact ⟨by omega, p.getD (onAt p (q + 2)) 0, by rw [Int.toNat_natCast]; exact getD_some hon2, onAt p (q + 2) + 1, rfl, hon2, by omega, rfl, rfl, rfl⟩
        · rw [if_neg (by rw [hd]; decide), if_neg (by rw [hd]; decide)]
          exact ⟨q + 1, rfl, hon, by omega, rfl, rfl, rfl⟩
      · rintro _ _ _ w11 ⟨r, rfl, hr, hkr, rfl, hrd, rfl⟩
        have hset' : setL m (p.drop r) false (addR S0 (p.getD q 0) (if dashes p (q + 1) = true then p.getD (onAt p (q + 2)) 0 else p.getD q 0)) = setL ((p.drop i0).length + 1) (p.drop i0) true (fun _ => false) := by
          rw [← hset, ← hrd]
          by_cases hd : dashes p (q + 1) = true
          · rw [if_pos hd, if_pos hd, if_pos hd]
          · rw [if_neg hd, if_neg hd, if_neg hd]
        generalize (if dashes p (q + 1) = true then p.getD (onAt p (q + 2)) 0 else p.getD q 0) = hi at hset' ⊢
        have hrl : (p.drop r).length < m := by
          simp only [List.length_drop] at hn ⊢
          omega
        refine bsel_of (fun hin => ⟨⟨r, m, _, rfl, hr, hrl, hset', ?_, rfl⟩, ?_⟩) (fun hin => bsel_of (fun hlo => ⟨⟨r, m, _, rfl, hr, hrl, hset', ?_, rfl⟩, ?_⟩) (fun hlo => ⟨⟨r, m, _, rfl, hr, hrl, hset', ?_, rfl⟩, ?_⟩))
        · simp [addR, hin]
        · dsimp only; omega
        · have hlo : (p.getD q 0).toNat ≤ c.toNat := by have := of_decide_eq_true hlo; omega
          simp only [addR, hin, Bool.false_or, decide_eq_true hlo, Bool.true_and]
          apply decide_eq_decide.2
          omega
        · dsimp only; omega
        · have hlo : ¬ (p.getD q 0).toNat ≤ c.toNat := by have := of_decide_eq_false hlo; omega
          simp only [addR, hin, Bool.false_or, decide_eq_false hlo, Bool.false_and]
        · dsimp only; omega

theorem setL_suffix : ∀ (n : Nat) (s : List UInt8) (f : Bool) (S : Set8), ∃ m, (setL n s f S).2 = s.drop m
  | 0, s, _, _ => ⟨0, rfl⟩
  | n + 1, s, f, S => by
    rw [setL]
    split
    · rename_i h
      have hne := goesOn_ne h
      have h1 : single s = single (s.drop 0) := rfl
      have hlt : 0 < s.length := List.length_pos_iff.2 hne
      have h2 : ∃ m, (dash (single s).1 (single s).2).2 = s.drop m := by
        rw [h1, single_drop hlt]
        dsimp only
        rw [dash_drop]
        split
        · exact ⟨_, rfl⟩
        · exact ⟨_, rfl⟩
      obtain ⟨m, hm⟩ := h2
      obtain ⟨k, hk⟩ := setL_suffix n (dash (single s).1 (single s).2).2 false (addR S (single s).1 (dash (single s).1 (single s).2).1)
      rw [hk, hm, List.drop_drop]
      exact ⟨_, rfl⟩
    · exact ⟨0, rfl⟩
theorem mkSet_suffix {s : List UInt8} {x : Set8 × List UInt8} (h : mkSet s = some x) : ∃ m, x.2 = s.drop m := by
  unfold mkSet at h
  obtain ⟨m, hm⟩ := setL_suffix ((cutNot s).1.length + 1) (cutNot s).1 true (fun _ => false)
  have hc : ∃ k, (cutNot s).1 = s.drop k := by
    cases s with
    | nil => exact ⟨0, rfl⟩
    | cons a r =>
      simp only [cutNot]
      split
      · exact ⟨1, rfl⟩
      · exact ⟨0, rfl⟩
  obtain ⟨k, hk⟩ := hc
  split at h
  · cases h
  · rename_i S a r he
    rw [he] at hm
    obtain rfl := Option.some.inj h
    dsimp only at hm ⊢
    refine ⟨k + m + 1, ?_⟩
    have h2 : s.drop (k + m) = a :: r := by rw [hm, hk, List.drop_drop]
    rw [← List.drop_drop, h2]
    rfl
theorem suffix_len {p r : List UInt8} {m : Nat} (h : r = p.drop m) (hr : r.length ≤ p.length) : r = p.drop (p.length - r.length) := by
  rcases Nat.lt_or_ge m p.length with h1 | h1
  · have : p.length - r.length = m := by rw [h]; simp; omega
    rw [this]
    exact h
  · rw [List.drop_of_length_le h1] at h
    subst h
    simp
theorem onePc_suffix {p : List UInt8} (h : p ≠ []) : (onePc p).2 = p.drop (p.length - (onePc p).2.length) := by
  have hl := onePc_length h
  match p, h with
  | a :: r, h =>
    have : ∃ m, (onePc (a :: r)).2 = (a :: r).drop m := by
      simp only [onePc]
      split
      · exact ⟨1, rfl⟩
      · split
        · split
          · rename_i x hx
            obtain ⟨m, hm⟩ := mkSet_suffix hx
            exact ⟨m + 1, hm⟩
          · exact ⟨1, rfl⟩
        · have h1 : single (a :: r) = single ((a :: r).drop 0) := rfl
          rw [h1, single_drop (by simp)]
          exact ⟨_, rfl⟩
    obtain ⟨m, hm⟩ := this
    exact suffix_len hm (Nat.le_of_lt hl)
/-- How long a piece is. -/
def oneLen (p : List UInt8) : Nat := p.length - (onePc p).2.length
theorem ref_one_spec (p : List UInt8) (hp : p.length < 1000000) (h0 : p ≠ []) (c : UInt8) : Calls Try.prog fn_ref11_one #[.string (S p), .int .u8 (c.toNat : Int)] w
    (fun e w' => e = .returned (.tuple #[.bool ((onePc p).1 c), .int .i64 (oneLen p : Int)]) ∧ w' = w) := by
  refine ref11_one_calls _ _ _ _ ?_
  obtain ⟨a, r, rfl⟩ := List.exists_cons_of_ne_nil h0
  have hsing := single_drop (p := a :: r) (i := 0) (by simp)
  have hsing : single (a :: r) = ((a :: r).getD (onAt (a :: r) 0) 0, (a :: r).drop (onAt (a :: r) 0 + 1)) := hsing
  refine ⟨fun w' => a ≠ 63 ∧ onAt (a :: r) 0 = 0 ∧ (a = 91 → mkSet r = none) ∧ w' = w, ⟨by decide, a, rfl, bsel_of (fun h => ?_) (fun h => ?_)⟩, ?_⟩
  · have h : a = 63 := byte_eq.1 (of_decide_eq_true h)
    have ho : onePc (a :: r) = (fun _ => true, r) := by simp only [onePc, if_pos h]
    have hl : oneLen (a :: r) = 1 := by unfold oneLen; rw [ho]; simp
    rw [ho, hl]
    exact ⟨rfl, rfl⟩
  · have h63 : ¬ a = 63 := fun e => of_decide_eq_false h (byte_eq.2 e)
    refine ⟨fun x w1 => x = decide (a = 92 ∧ 1 < (a :: r).length) ∧ w1 = w, ⟨by decide, a, rfl, bsel_of (fun h => ⟨?_, rfl⟩) (fun h => ⟨?_, rfl⟩)⟩, ?_⟩
    · have h : a = 92 := byte_eq.1 (of_decide_eq_true h)
      apply decide_eq_decide.2
      exact ⟨fun h2 => ⟨h, by omega⟩, fun h2 => by have := h2.2; omega⟩
    · rw [decide_eq_false (fun h2 => of_decide_eq_false h (byte_eq.2 h2.1))]
    · rintro _ _ w1 ⟨rfl, rfl⟩
      refine bsel_of (fun h => ?_) (fun h => ⟨by decide, a, rfl, bsel_of (fun h91 => ?_) (fun h91 => ?_)⟩)
      · obtain ⟨ha, hlen⟩ := of_decide_eq_true h
        obtain ⟨b, r', rfl⟩ : ∃ b r', r = b :: r' := by
          cases r with
          | nil => simp at hlen
          | cons b r' => exact ⟨b, r', rfl⟩
        have h91 : ¬ a = 91 := by rw [ha]; decide
        have ho : onePc (a :: b :: r') = (fun x => decide (x = b), r') := by
          simp only [onePc, if_neg h63, if_neg h91, single, if_pos ha]
        have hl : oneLen (a :: b :: r') = 2 := by unfold oneLen; rw [ho]; simp; omega
        rw [ho, hl]
        refine ⟨by decide, b, rfl, ?_, rfl⟩
        have : decide ((b.toNat : Int) = (c.toNat : Int)) = decide (c = b) := by
          apply decide_eq_decide.2
          exact ⟨fun h => (byte_eq.1 h).symm, fun h => byte_eq.2 h.symm⟩
        rw [this]
        rfl
      · have h91 : a = 91 := byte_eq.1 (of_decide_eq_true h91)
        have hon0 : onAt (a :: r) 0 = 0 := by
          unfold onAt
          rw [if_neg]
          intro h2
          have h3 : a = 92 := h2.1
          rw [h91] at h3
          exact absurd h3 (by decide)
        refine (ref_set_spec _ hp h0 c).mono ?_
        rintro _ w2 ⟨rfl, rfl⟩
        refine .inl ⟨_, _, rfl, ?_⟩
        unfold setAns
        rw [show (a :: r).drop 1 = r from rfl]
        cases hmk : mkSet r with
        | none => exact bsel_of (fun h => by simp at h) (fun _ => ⟨h63, hon0, fun _ => rfl, rfl⟩)
        | some x =>
          have hlx := mkSet_length hmk
          have ho : onePc (a :: r) = x := by simp only [onePc, if_neg h63, if_pos h91, hmk]
          refine bsel_of (fun _ => ⟨?_, rfl⟩) (fun h => ?_)
          · unfold oneLen
            rw [ho]
          · have h := of_decide_eq_false h
            simp only [List.length_cons] at h
            omega
      · have h91 : ¬ a = 91 := fun e => of_decide_eq_false h91 (byte_eq.2 e)
        refine ⟨h63, ?_, fun e => absurd e h91, rfl⟩
        unfold onAt
        rw [if_neg]
        intro h2
        exact of_decide_eq_false h ⟨h2.1, h2.2⟩
  · rintro _ w3 ⟨h63, hon, h91, rfl⟩
    refine ⟨by decide, a, rfl, ?_, rfl⟩
    rw [hon] at hsing
    have hsing : single (a :: r) = (a, r) := hsing
    have ho : onePc (a :: r) = (fun x => decide (x = a), r) := by
      simp only [onePc, if_neg h63]
      split
      · rename_i h
        rw [h91 h, h]
      · rw [hsing]
    have hl : oneLen (a :: r) = 1 := by unfold oneLen; rw [ho]; simp
    rw [ho, hl]
    have : decide ((a.toNat : Int) = (c.toNat : Int)) = decide (c = a) := by
      apply decide_eq_decide.2
      exact ⟨fun h => (byte_eq.1 h).symm, fun h => byte_eq.2 h.symm⟩
    rw [this]
    rfl
end Go.Proofs.Ytjkbpdhpmcndlaa
