/- Scripts: tokens are few, and small. Plain law. Conditions: none. -/
import Derived.Test.YtcoeiiihmpnagaaDoorLxThm
import Derived.Test.YtcoeiiihmpnagaaDoorM2
namespace Go.Proofs.YtcoeiiihmpnagaaDoor

theorem toks_small : ∀ (n : Nat) (s : Txt), s.length ≤ n → ∀ l, toks s = some l → l.length ≤ s.length ∧ ∀ x ∈ l, x.2.length ≤ s.length ∧ x.2 ≠ [] ∧ x.1 < 3
  | _, [], _, l, h => by
    rw [toks_nil] at h
    obtain rfl := Option.some.inj h
    exact ⟨Nat.le_refl _, fun x hx => by cases hx⟩
  | 0, a :: r, hn, _, _ => by simp only [List.length_cons] at hn; omega
  | n + 1, a :: r, hn, l, h => by
    rw [toks_cons] at h
    cases h1 : tokOne a r with
    | none => rw [h1] at h; cases h
    | some y =>
      obtain ⟨l1, t⟩ := y
      rw [h1] at h
      simp only [Option.bind] at h
      cases h2 : toks t with
      | none => rw [h2] at h; cases h
      | some m =>
        rw [h2] at h
        obtain rfl := Option.some.inj h
        have hlen := tokOne_length h1
        simp only [List.length_cons] at hn ⊢
        obtain ⟨i1, i2⟩ := toks_small n t (by omega) m h2
        refine ⟨by rw [List.length_append]; omega, fun x hx => ?_⟩
        rcases List.mem_append.1 hx with hx | hx
        · rcases tokOne_view h1 with ⟨_, rfl, rfl⟩ | ⟨_, rfl, rfl⟩ | ⟨_, rfl, rfl⟩ | ⟨_, _, rfl, rfl⟩ | ⟨_, _, p, hp, hpt, _, rfl⟩
          · cases hx
          · cases hx
          · obtain rfl := List.mem_singleton.1 hx
            exact ⟨by simp, by simp, by show 2 < 3; decide⟩
          · obtain rfl := List.mem_singleton.1 hx
            have ho := opLen_le (a := a) (r := r)
            simp only [List.length_cons] at ho
            refine ⟨?_, fun e => ?_, by show 1 < 3; decide⟩
            · rw [List.length_take, List.length_cons]
              omega
            · have := congrArg List.length e
              rw [List.length_take, List.length_cons] at this
              simp only [List.length_nil] at this
              omega
          · obtain rfl := List.mem_singleton.1 hx
            refine ⟨?_, hp, by show 0 < 3; decide⟩
            have := congrArg List.length hpt
            simp only [List.length_cons, List.length_append] at this
            show p.length ≤ _
            omega
        · obtain ⟨j1, j2, j3⟩ := i2 x hx
          exact ⟨by omega, j2, j3⟩
theorem tokRes_tb (s : Txt) : TB (tokRes s).1 := by
  unfold tokRes
  split
  · exact ⟨by simp, fun x hx => by cases hx⟩
  · split
    · rename_i h20 _ l hl
      obtain ⟨h1, h2⟩ := toks_small _ s (Nat.le_refl _) l hl
      refine ⟨by show l.length ≤ _; omega, fun x hx => ?_⟩
      obtain ⟨j1, j2, j3⟩ := h2 x hx
      exact ⟨by omega, j2, by omega⟩
    · exact ⟨by simp, fun x hx => by cases hx⟩
/-- What the parser tells: a node and a number. -/
def nd0 : Nd := .mk 0 false [] [] [] [] [] []
def parseR (s : Txt) : Nd × Int := if (tokRes s).2 = 0 then match scriptF (tokRes s).1 with
  | .ok x => (x, 0)
  | .bad k => (nd0, (k : Int))
  else (nd0, (tokRes s).2)
end Go.Proofs.YtcoeiiihmpnagaaDoor
