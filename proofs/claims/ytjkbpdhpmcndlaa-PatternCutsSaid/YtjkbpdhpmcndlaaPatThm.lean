/- What is escaped, what is plain, what a star adds, what is cut. Plain law; no program is named. Conditions: none. -/
import Derived.Test.YtjkbpdhpmcndlaaPatGreedy
namespace Go.Proofs.Ytjkbpdhpmcndlaa
open Go.RowKit Vc

theorem escape_cons (c : UInt8) (s : List UInt8) : escape (c :: s) = 92 :: c :: escape s := rfl
theorem pcs_escape : ∀ s : List UInt8, pcs (escape s) = s.map fun c => ⟨false, fun x => decide (x = c)⟩
  | [] => rfl
  | c :: s => by
    rw [escape_cons, pcs_one (by simp) (by simp)]
    have h1 : onePc (92 :: c :: escape s) = (fun x => decide (x = c), escape s) := by simp [onePc, single]
    rw [h1, pcs_escape s]
    rfl
theorem match_escape (s t : List UInt8) : pMatch (escape s) t = decide (s = t) := by
  rw [pMatch, pcs_escape]
  induction s generalizing t with
  | nil => cases t <;> simp [mt]
  | cons c s ih =>
    cases t with
    | nil => simp [mt]
    | cons d t =>
      rw [List.map_cons, mt_set_cons, ih]
      by_cases h : d = c
      · subst h; simp
      · have : ¬ c = d := fun e => h e.symm
        simp [h, this]
theorem plain_escape : ∀ s : List UInt8, plain (escape s) = s
  | [] => rfl
  | c :: s => by
    rw [escape_cons]
    simp only [plain, if_pos]
    rw [plain_escape s]
theorem special_escape : ∀ s : List UInt8, special (escape s) = false
  | [] => rfl
  | c :: s => by
    rw [escape_cons, special_step, show isSign 92 = false from rfl, Bool.false_or]
    simp only [single, if_pos]
    exact special_escape s
theorem match_star_ahead {p s : List UInt8} (t : List UInt8) (h : pMatch p s = true) : pMatch (42 :: p) (t ++ s) = true := by
  rw [pMatch, pcs_star, mt_star]
  exact ⟨t.length, by simp, by rw [List.drop_left]; exact h⟩
theorem match_star_all (s : List UInt8) : pMatch [42] s = true := by
  rw [pMatch, pcs_star, mt_star]
  exact ⟨s.length, Nat.le_refl _, by rw [List.drop_of_length_le (Nat.le_refl _)]; rfl⟩
theorem match_plain : ∀ (n : Nat) (p s : List UInt8), p.length ≤ n → special p = false → pMatch p s = decide (plain p = s)
  | _, [], s, _, _ => by cases s <;> rfl
  | 0, a :: r, _, h, _ => by simp at h
  | n + 1, a :: r, s, hn, hsp => by
    have hne : a :: r ≠ [] := List.cons_ne_nil _ _
    rw [special_step, Bool.or_eq_false_iff] at hsp
    obtain ⟨hs1, hs2⟩ := hsp
    have hs1' : a ≠ 42 ∧ a ≠ 63 ∧ a ≠ 91 := by
      refine ⟨?_, ?_, ?_⟩ <;> rintro rfl <;> exact absurd hs1 (by decide)
    have hlen := single_length hne
    have h1 : onePc (a :: r) = (fun c => decide (c = (single (a :: r)).1), (single (a :: r)).2) := by simp only [onePc, if_neg hs1'.2.1, if_neg hs1'.2.2]
    have ih := fun s => match_plain n (single (a :: r)).2 s (by simp only [List.length_cons] at hlen hn; omega) hs2
    rw [pMatch, pcs_one hne (by simpa using hs1'.1), h1, plain_step hne]
    cases s with
    | nil => rw [mt_set_nil]; simp
    | cons d t =>
      have ih := ih t
      rw [pMatch] at ih
      rw [mt_set_cons, ih]
      by_cases h : d = (single (a :: r)).1
      · rw [← h]; simp
      · have : ¬ (single (a :: r)).1 = d := fun e => h e.symm
        simp [h, this]
theorem removeL_cases (s p : List UInt8) (e m : Bool) : ∀ (f k : Nat), f + k ≤ s.length + 1 → removeL s p e m f k = s ∨ ∃ n, n ≤ s.length ∧ cutOne s p e n = some (removeL s p e m f k)
  | 0, _, _ => .inl rfl
  | f + 1, k, h => by
    rw [removeL]
    split
    · rename_i t ht
      refine .inr ⟨_, ?_, ht⟩
      split <;> omega
    · exact removeL_cases s p e m f (k + 1) (by omega)
theorem remove_end {s p : List UInt8} {m : Bool} : (remove s p true m).length ≤ s.length ∧ s.take (remove s p true m).length = remove s p true m ∧ (s.length - (remove s p true m).length = 0 ∨ pMatch p (s.drop (remove s p true m).length) = true) := by
  rcases removeL_cases s p true m (s.length + 1) 0 (Nat.le_refl _) with h | ⟨n, hn, h⟩
  · have h : remove s p true m = s := h
    rw [h]
    exact ⟨Nat.le_refl _, List.take_length, .inl (Nat.sub_self _)⟩
  · have h : cutOne s p true n = some (remove s p true m) := h
    unfold cutOne at h
    rw [if_pos rfl] at h
    split at h
    · rename_i hm
      have h := Option.some.inj h
      have hl : (remove s p true m).length = s.length - n := by rw [← h]; simp
      refine ⟨by omega, by rw [hl]; exact h, .inr ?_⟩
      rw [hl]
      exact hm
    · cases h
theorem remove_head {s p : List UInt8} {m : Bool} : (remove s p false m).length ≤ s.length ∧ s.drop (s.length - (remove s p false m).length) = remove s p false m ∧ (s.length - (remove s p false m).length = 0 ∨ pMatch p (s.take (s.length - (remove s p false m).length)) = true) := by
  rcases removeL_cases s p false m (s.length + 1) 0 (Nat.le_refl _) with h | ⟨n, hn, h⟩
  · have h : remove s p false m = s := h
    rw [h]
    exact ⟨Nat.le_refl _, by simp, .inl (Nat.sub_self _)⟩
  · have h : cutOne s p false n = some (remove s p false m) := h
    unfold cutOne at h
    rw [if_neg (by decide)] at h
    split at h
    · rename_i hm
      have h := Option.some.inj h
      have hl : (remove s p false m).length = s.length - n := by rw [← h]; simp
      have hl2 : s.length - (remove s p false m).length = n := by omega
      refine ⟨by omega, by rw [hl2]; exact h, .inr ?_⟩
      rw [hl2]
      exact hm
    · cases h
end Go.Proofs.Ytjkbpdhpmcndlaa
