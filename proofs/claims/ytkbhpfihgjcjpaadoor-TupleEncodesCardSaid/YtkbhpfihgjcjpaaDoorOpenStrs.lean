/- What a reading of a list of texts tells. Conditions: as each theorem names them. -/
import Derived.Test.YtkbhpfihgjcjpaaDoorStrs
import Derived.Test.YtkbhpfihgjcjpaaDoorRowS
namespace Go.Proofs.YtkbhpfihgjcjpaaDoor
open Go.ChangeShapes Go.WideShapes Go.ChangeAt Go.RowKit Vc Go.Deep
section
variable {H : Type} {enc : TypeId × Value → H} {W : World} {base b0 : Nat} {spare : Nat → Bool} {held : Bool} {r : Reach} {v : Value} {d : DataW H} {ps : List MemPlace}
theorem trod_strs {n : Nat} {y : DataW H × List MemPlace} (h : DataW.trod enc Tryd.prog W base spare held n 22 [v] = some y) (hs : Sized Tryd.prog 22 y.1) :
    ∃ p L C ls, v = .slice p L C ∧ StrsAt W p L ls ∧ (∀ x ∈ ls, x.length ≤ 140737488355328) ∧ L ≤ 140737488355328 := by
  rcases open_slice Tryd.underlying22 h with ⟨hc, _⟩ | ⟨a, len, cap, m, n, D, Pl, hc, _, hl, _, hm, hx, hi⟩
  · simp at hc
    exact ⟨none, 0, 0, [], hc, StrsAt.nil W, (fun x hx => by cases hx), by decide⟩
  · simp at hc
    subst hc hx
    have hc1 : Tryd.prog.cellsOf 9 = 1 := by kernel_rfl
    have hb16 : Tryd.prog.bytesOf 9 = 16 := by kernel_rfl
    have hlm : len ≤ m := by rw [hm]; split <;> omega
    have each : ∀ i, i < len → ∃ l : List UInt8, W.cell? (a.add i) = some (.string (S l)) ∧ l.length ≤ 140737488355328 := by
      intro i hil
      obtain ⟨cs', hcs, ht⟩ := hi i (by omega)
      rw [hc1] at hcs
      obtain ⟨_, hcl, hat⟩ := World.cells?_some hcs
      match cs', hcl with
      | [v0], _ =>
        obtain ⟨l, rfl, hD⟩ := fstrcell Tryd.underlying9 ht
        have h0 := hat (i := 0) (by decide)
        have h1 : Sized Tryd.prog 9 (D i) := hs.elem Tryd.underlying22 (List.mem_map.2 ⟨i, by simpa using hil, rfl⟩)
        rw [show D i = .lit (.string l) from hD] at h1
        refine ⟨l, ?_, h1.str⟩
        rw [← show (a.add (i * 1)).add 0 = a.add i by rw [Nat.mul_one]; rfl]
        simpa using h0
    have hall : ∀ k, k ≤ len → ∃ ls : List Txt, ls.length = k ∧ (∀ x ∈ ls, x.length ≤ 140737488355328) ∧ ∀ j l, ls[j]? = some l → W.cell? (a.add j) = some (.string (S l)) := by
      intro k
      induction k with
      | zero => exact fun _ => ⟨[], rfl, (fun x hx => by cases hx), fun j l h => by simp at h⟩
      | succ k ih =>
        intro hk
        obtain ⟨ls, h1, h2, h3⟩ := ih (by omega)
        obtain ⟨l, g1, g2⟩ := each k (by omega)
        refine ⟨ls ++ [l], by simp [h1], fun x hx => ?_, fun j u hu => ?_⟩
        · rcases List.mem_append.1 hx with hx | hx
          · exact h2 x hx
          · simp at hx
            rw [hx]
            exact g2
        · by_cases hj : j < ls.length
          · rw [List.getElem?_append_left hj] at hu
            exact h3 j u hu
          · rw [List.getElem?_append_right (by omega)] at hu
            have hj0 : j - ls.length = 0 := by
              by_cases e : j - ls.length = 0
              · exact e
              · rw [List.getElem?_eq_none (by simp; omega)] at hu; cases hu
            rw [hj0] at hu
            simp at hu
            subst hu
            rw [show j = k by omega]
            exact g1
    obtain ⟨ls, h1, h2, h3⟩ := hall len (Nat.le_refl _)
    refine ⟨some a, len, cap, ls, rfl, ⟨h1, fun _ => ⟨a, rfl, fun j u hu => ?_⟩⟩, h2, ?_⟩
    · simp only [strs, List.getElem?_map] at hu
      cases hj : ls[j]? with
      | none => rw [hj] at hu; cases hu
      | some l =>
        rw [hj] at hu
        injection hu with hu
        rw [← hu]
        exact h3 j l hj
    · have := Sized.slice hs Tryd.underlying22
      rw [hb16] at this
      have e : reachBytes = 140737488351232 := rfl
      simp only [List.length_map, List.length_range] at this
      omega
theorem open_strs (hval : Value.okWide Tryd.prog W r b0 22 v) (h : DataW.Trod enc Tryd.prog W base spare held 22 v d ps) (hs : Sized Tryd.prog 22 d) :
    ∃ p L C ls, v = .slice p L C ∧ StrsAt W p L ls ∧ (∀ x ∈ ls, x.length ≤ 140737488355328) ∧ L ≤ 140737488355328 := by
  obtain ⟨p, L, C, rfl⟩ := okWide_slice Tryd.underlying22 hval
  obtain ⟨fuel, h⟩ := h
  exact trod_strs h hs
end
end Go.Proofs.YtkbhpfihgjcjpaaDoor
