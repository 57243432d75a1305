/- A match that goes back to the last star alone finds what any match finds. Plain law; no program is named. Conditions: none. -/
import Derived.Test.YtjkbpdhpmcndlaaPat
namespace Go.Proofs.Ytjkbpdhpmcndlaa
open Go.RowKit Vc

theorem mt_nil (t : List UInt8) : mt [] t = true ↔ t = [] := by simp [mt]
theorem mt_set_cons (S : Set8) (ps : List Pc) (c : UInt8) (t : List UInt8) : mt (⟨false, S⟩ :: ps) (c :: t) = (S c && mt ps t) := rfl
theorem mt_set_nil (S : Set8) (ps : List Pc) : mt (⟨false, S⟩ :: ps) [] = false := rfl
theorem mt_star_nil (S : Set8) (ps : List Pc) : mt (⟨true, S⟩ :: ps) [] = mt ps [] := by simp [mt]
/-- Pieces that are no stars take a byte each. -/
theorem mt_skip {l : List Pc} {s : List UInt8} : ∀ (m a j : Nat), (∀ n, a ≤ n → n < a + m → ∃ S, l[n]? = some ⟨false, S⟩) → mt (l.drop a) (s.drop j) = true → j ≤ s.length → j + m ≤ s.length ∧ mt (l.drop (a + m)) (s.drop (j + m)) = true
  | 0, a, j, _, h, hj => ⟨hj, h⟩
  | m + 1, a, j, hn, h, hj => by
    obtain ⟨S, hS⟩ := hn a (Nat.le_refl _) (by omega)
    have ha : a < l.length := (List.getElem?_eq_some_iff.1 hS).1
    have hd : l.drop a = ⟨false, S⟩ :: l.drop (a + 1) := by
      rw [List.drop_eq_getElem_cons ha]
      rw [List.getElem?_eq_getElem ha] at hS
      rw [Option.some.inj hS]
    rw [hd] at h
    rcases Nat.lt_or_ge j s.length with hlt | hge
    · rw [List.drop_eq_getElem_cons hlt, mt_set_cons, Bool.and_eq_true] at h
      have := mt_skip m (a + 1) (j + 1) (fun n h1 h2 => hn n (by omega) (by omega)) h.2 hlt
      rw [show a + (m + 1) = a + 1 + m by omega, show j + (m + 1) = j + 1 + m by omega]
      exact this
    · rw [List.drop_of_length_le hge, mt_set_nil] at h
      cases h
theorem mt_star_at {l : List Pc} {s : List UInt8} {i k : Nat} {S : Set8} (hi : l[i]? = some ⟨true, S⟩) (hk : k ≤ s.length) : mt (l.drop i) (s.drop k) = true ↔ ∃ j, k ≤ j ∧ j ≤ s.length ∧ mt (l.drop (i + 1)) (s.drop j) = true := by
  have ha : i < l.length := (List.getElem?_eq_some_iff.1 hi).1
  have hd : l.drop i = ⟨true, S⟩ :: l.drop (i + 1) := by
    rw [List.drop_eq_getElem_cons ha]
    rw [List.getElem?_eq_getElem ha] at hi
    rw [Option.some.inj hi]
  rw [hd, mt_star]
  constructor
  · rintro ⟨j, hj, h⟩
    rw [List.drop_drop] at h
    rw [List.length_drop] at hj
    exact ⟨k + j, by omega, by omega, h⟩
  · rintro ⟨j, h1, h2, h⟩
    refine ⟨j - k, by rw [List.length_drop]; omega, ?_⟩
    rw [List.drop_drop, show k + (j - k) = j by omega]
    exact h
theorem mt_set_at {l : List Pc} {s : List UInt8} {i k : Nat} {S : Set8} (hi : l[i]? = some ⟨false, S⟩) {c : UInt8} (hk : s[k]? = some c) : mt (l.drop i) (s.drop k) = (S c && mt (l.drop (i + 1)) (s.drop (k + 1))) := by
  have ha : i < l.length := (List.getElem?_eq_some_iff.1 hi).1
  have hb : k < s.length := (List.getElem?_eq_some_iff.1 hk).1
  rw [List.drop_eq_getElem_cons ha, List.drop_eq_getElem_cons hb]
  rw [List.getElem?_eq_getElem ha] at hi
  rw [List.getElem?_eq_getElem hb] at hk
  rw [Option.some.inj hi, Option.some.inj hk]
  rfl

/-- How a match that goes back to the last star stands. -/
structure Gr (l : List Pc) (s : List UInt8) (i k : Nat) (star : Option Nat) (mark : Nat) : Prop where
  hi : i ≤ l.length
  hk : k ≤ s.length
  hm : mark ≤ s.length
  ans : mt l s = true ↔ mt (l.drop i) (s.drop k) = true ∨ ∃ st, star = some st ∧ ∃ j, mark < j ∧ j ≤ s.length ∧ mt (l.drop (st + 1)) (s.drop j) = true
  link : ∀ st, star = some st → st < i ∧ k = mark + (i - st - 1) ∧ ∀ n, st + 1 ≤ n → n < i → ∃ S, l[n]? = some ⟨false, S⟩
theorem Gr.start (l : List Pc) (s : List UInt8) : Gr l s 0 0 none 0 :=
  ⟨Nat.zero_le _, Nat.zero_le _, Nat.zero_le _, by simp, fun _ h => by cases h⟩
section
variable {l : List Pc} {s : List UInt8} {i k mark : Nat} {star : Option Nat}
theorem Gr.onStar (g : Gr l s i k star mark) {S : Set8} (hi : l[i]? = some ⟨true, S⟩) : Gr l s (i + 1) k (some i) k := by
  have ha : i < l.length := (List.getElem?_eq_some_iff.1 hi).1
  refine ⟨ha, g.hk, g.hk, ?_, ?_⟩
  · rw [g.ans]
    constructor
    · rintro (h | ⟨st, hst, j, h1, h2, h⟩)
      · obtain ⟨j, h1, h2, h⟩ := (mt_star_at hi g.hk).1 h
        rcases Nat.eq_or_lt_of_le h1 with rfl | h3
        · exact .inl h
        · exact .inr ⟨i, rfl, j, h3, h2, h⟩
      · obtain ⟨h3, h4, h5⟩ := g.link st hst
        obtain ⟨h6, h7⟩ := mt_skip (i - st - 1) (st + 1) j (fun n a b => h5 n a (by omega)) h h2
        rw [show st + 1 + (i - st - 1) = i by omega] at h7
        obtain ⟨j', h8, h9, h10⟩ := (mt_star_at hi h6).1 h7
        exact .inr ⟨i, rfl, j', by omega, h9, h10⟩
    · rintro (h | ⟨st, hst, j, h1, h2, h⟩)
      · exact .inl ((mt_star_at hi g.hk).2 ⟨k, Nat.le_refl _, g.hk, h⟩)
      · obtain rfl := Option.some.inj hst
        exact .inl ((mt_star_at hi g.hk).2 ⟨j, by omega, h2, h⟩)
  · intro st hst
    obtain rfl := Option.some.inj hst
    exact ⟨by omega, by omega, fun n h1 h2 => by omega⟩
theorem Gr.onSet (g : Gr l s i k star mark) {S : Set8} (hi : l[i]? = some ⟨false, S⟩) {c : UInt8} (hk : s[k]? = some c) (hc : S c = true) : Gr l s (i + 1) (k + 1) star mark := by
  have ha : i < l.length := (List.getElem?_eq_some_iff.1 hi).1
  have hb : k < s.length := (List.getElem?_eq_some_iff.1 hk).1
  refine ⟨ha, hb, g.hm, ?_, ?_⟩
  · rw [g.ans, mt_set_at hi hk, hc, Bool.true_and]
  · intro st hst
    obtain ⟨h3, h4, h5⟩ := g.link st hst
    refine ⟨by omega, by omega, fun n h1 h2 => ?_⟩
    rcases Nat.lt_or_ge n i with h | h
    · exact h5 n h1 h
    · obtain rfl : n = i := by omega
      exact ⟨S, hi⟩
theorem Gr.misses (hi : l[i]? = none ∨ ∃ S, l[i]? = some ⟨false, S⟩ ∧ ∀ c, s[k]? = some c → S c = false) (hk : k < s.length) : mt (l.drop i) (s.drop k) = false := by
  rcases hi with hi | ⟨S, hi, hc⟩
  · rw [List.drop_of_length_le (List.getElem?_eq_none_iff.1 hi), List.drop_eq_getElem_cons hk]
    rfl
  · have hk' : s[k]? = some s[k] := List.getElem?_eq_getElem hk
    rw [mt_set_at hi hk', hc _ hk']
    rfl
theorem Gr.back {st : Nat} (g : Gr l s i k (some st) mark) (hi : l[i]? = none ∨ ∃ S, l[i]? = some ⟨false, S⟩ ∧ ∀ c, s[k]? = some c → S c = false) (hk : k < s.length) : Gr l s (st + 1) (mark + 1) (some st) (mark + 1) := by
  obtain ⟨h3, h4, h5⟩ := g.link st rfl
  have hi' := g.hi
  refine ⟨by omega, by omega, by omega, ?_, ?_⟩
  · rw [g.ans, Gr.misses hi hk]
    constructor
    · rintro (h | ⟨st', hst, j, h1, h2, h⟩)
      · cases h
      · obtain rfl := Option.some.inj hst
        rcases Nat.lt_or_ge (mark + 1) j with h6 | h6
        · exact .inr ⟨_, rfl, j, h6, h2, h⟩
        · obtain rfl : j = mark + 1 := by omega
          exact .inl h
    · rintro (h | ⟨st', hst, j, h1, h2, h⟩)
      · exact .inr ⟨st, rfl, mark + 1, by omega, by omega, h⟩
      · obtain rfl := Option.some.inj hst
        exact .inr ⟨_, rfl, j, by omega, h2, h⟩
  · intro st' hst
    obtain rfl := Option.some.inj hst
    exact ⟨by omega, by omega, fun n h1 h2 => by omega⟩
theorem Gr.fails (g : Gr l s i k none mark) (hi : l[i]? = none ∨ ∃ S, l[i]? = some ⟨false, S⟩ ∧ ∀ c, s[k]? = some c → S c = false) (hk : k < s.length) : mt l s = false := by
  have h := g.ans
  rw [Gr.misses hi hk] at h
  cases hm : mt l s with
  | false => rfl
  | true =>
    rcases h.1 hm with h | ⟨st, hst, _⟩
    · cases h
    · cases hst
theorem Gr.done (g : Gr l s i s.length star mark) : mt l s = mt (l.drop i) [] := by
  have h := g.ans
  rw [List.drop_of_length_le (Nat.le_refl _)] at h
  cases hm : mt l s with
  | true =>
    rcases h.1 hm with h | ⟨st, hst, j, h1, h2, h⟩
    · exact h.symm
    · obtain ⟨h3, h4, h5⟩ := g.link st hst
      obtain ⟨h6, h7⟩ := mt_skip (i - st - 1) (st + 1) j (fun n a b => h5 n a (by omega)) h h2
      omega
  | false =>
    cases hm2 : mt (l.drop i) [] with
    | false => rfl
    | true => exact absurd (h.2 (.inl hm2)) (by rw [hm]; decide)
end
theorem lex2 {a b c d N : Nat} (h : a < b) (hc : c < N) : a * N + c < b * N + d := by
  have h1 : (a + 1) * N ≤ b * N := Nat.mul_le_mul_right _ h
  rw [Nat.add_mul] at h1
  omega
/-- What falls with every step. -/
def grM (L n : Nat) (i : Nat) (star1 mark : Nat) : Nat := ((L + 1 - star1) * (n + 2) + (n + 1 - mark)) * (L + 2) + (L + 1 - i)
theorem grM_star {L n i star1 mark k : Nat} (h : star1 ≤ i) (hi : i < L) (hk : k ≤ n) : grM L n (i + 1) (i + 1) k < grM L n i star1 mark :=
  lex2 (lex2 (by omega) (by omega)) (by omega)
theorem grM_set {L n i star1 mark : Nat} (hi : i < L) : grM L n (i + 1) star1 mark < grM L n i star1 mark := by unfold grM; omega
theorem grM_back {L n i i' star1 mark : Nat} (hm : mark ≤ n) : grM L n i' star1 (mark + 1) < grM L n i star1 mark :=
  lex2 (by omega) (by omega)
end Go.Proofs.Ytjkbpdhpmcndlaa
