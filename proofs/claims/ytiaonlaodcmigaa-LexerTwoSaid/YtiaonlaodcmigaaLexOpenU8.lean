/- A slice of bytes among the arguments: what may be read. Conditions: as each theorem names them. -/
import Derived.Test.YtiaonlaodcmigaaOpen
import Derived.Test.YtiaonlaodcmigaaLexPieces
import Derived.ChangeSlices
namespace Go.Proofs.Ytiaonlaodcmigaa
open Go.ChangeShapes Go.WideShapes Go.ChangeAt Go.RowKit Vc
theorem open_u8s {H : Type} {enc : TypeId × Value → H} {W : World} {base b0 : Nat} {spare : Nat → Bool} {held : Bool} {r : Reach} {v : Value} {d : DataW H} {ps : List MemPlace} (hval : Value.okWide Try.prog W r b0 22 v)
    (h : DataW.Trod enc Try.prog W base spare held 22 v d ps) : ∃ p L C, v = .slice p L C ∧ U8s W p L := by
  obtain ⟨p, L, C, rfl⟩ := okWide_slice Try.underlying22 hval
  refine ⟨p, L, C, rfl, ?_⟩
  obtain ⟨fuel, h⟩ := h
  rcases open_ints Try.underlying22 Try.underlying5 (by kernel_rfl) h with ⟨hc, _⟩ | ⟨a, len, cap, zs, hc, _, hl, _, hz, _, hcell, hwf⟩
  · simp [Value.cells] at hc
    obtain ⟨rfl, rfl, rfl⟩ := hc
    intro i hi
    omega
  · simp [Value.cells] at hc
    obtain ⟨rfl, rfl, rfl⟩ := hc
    intro i hi
    have hiz : i < zs.length := by rw [hz]; split <;> omega
    have hg : zs.getD i 0 ∈ zs := by
      rw [List.getD_eq_getElem?_getD, List.getElem?_eq_getElem hiz]
      exact List.getElem_mem hiz
    have hw := wf_u8 (hwf _ hg)
    refine ⟨a, (zs.getD i 0).toNat, rfl, by omega, ?_⟩
    rw [Nat.mul_one, hcell i hiz]
    congr 2
    omega
end Go.Proofs.Ytiaonlaodcmigaa
