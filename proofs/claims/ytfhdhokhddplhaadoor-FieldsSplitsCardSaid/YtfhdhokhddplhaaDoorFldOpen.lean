/- What a reading of numbers for pieces tells. Conditions: as each theorem names them. -/
import Derived.Test.YtfhdhokhddplhaaDoorFldLaw
import Derived.Test.YtfhdhokhddplhaaDoorOpenK
namespace Go.Proofs.YtfhdhokhddplhaaDoor
open Go.ChangeShapes Go.WideShapes Go.ChangeAt Go.RowKit Vc
section
variable {H : Type} {enc : TypeId × Value → H} {W : World} {base b0 : Nat} {spare : Nat → Bool} {held : Bool} {r : Reach} {v : Value} {d : DataW H} {ps : List MemPlace}
theorem open_bits (hval : Value.okWide Tryd.prog W r b0 22 v) (h : DataW.Trod enc Tryd.prog W base spare held 22 v d ps) (_ : Sized Tryd.prog 22 d) : ∃ p L C, v = .slice p L C ∧ BitsAt W p L := by
  obtain ⟨p, L, C, rfl⟩ := okWide_slice Tryd.underlying22 hval
  refine ⟨p, L, C, rfl, ?_⟩
  obtain ⟨fuel, h⟩ := h
  rcases open_slice_fields Tryd.underlying22 Tryd.underlying38 (by kernel_rfl) (by kernel_rfl) h with ⟨hc, _⟩ | ⟨a, len, cap, m, D, Pl, hc, _, hl, _, hm, hx, hf⟩
  · simp [Value.cells] at hc
    obtain ⟨rfl, rfl, rfl⟩ := hc
    intro i hi
    omega
  · simp [Value.cells] at hc
    obtain ⟨rfl, rfl, rfl⟩ := hc
    intro i hi
    obtain ⟨ys, n, hD, _, _, hf⟩ := hf i (by rw [hm]; split <;> omega)
    obtain ⟨v0, y0, c0, _, t0⟩ := hf 0 _ rfl
    obtain ⟨v1, y1, c1, _, t1⟩ := hf 1 _ rfl
    obtain ⟨x0, rfl, w0⟩ := fintcell Tryd.underlying5 t0
    obtain ⟨q, L1, C1, vs, rfl, hu⟩ := trod_u8s t1
    obtain ⟨k0, rfl, h0⟩ := nat_u8 w0
    refine ⟨a, rfl, k0, q, L1, C1, vs, h0, c0, ?_, hu⟩
    rw [Go.Deep.add_add]
    exact c1
end
end Go.Proofs.YtfhdhokhddplhaaDoor
