/- Slices of bytes among what is read. Conditions: as each theorem names them. -/
import Derived.Test.YtcoeiiihmpnagaaDoorM8
import Derived.Test.YtcoeiiihmpnagaaDoorStrs
import Derived.ChangeSlices
namespace Go.Proofs.YtcoeiiihmpnagaaDoor
open Go.ChangeShapes Go.WideShapes Go.ChangeAt Go.RowKit Vc

theorem Mod.toBelow {W W' : World} (h : Still W W') : Below W.heap.size W W' := h.below (Nat.le_refl _) (fun _ h => h.elim)
theorem nat_u8 {n : Int} (h : (Lit.int .u8 n).wf = true) : ∃ k : Nat, n = (k : Int) ∧ k < 256 := by
  have := wf_u8 h
  exact ⟨n.toNat, by omega, by omega⟩
theorem wf_u16 {n : Int} (h : (Lit.int .u16 n).wf = true) : 0 ≤ n ∧ n < 65536 := by
  simp [Lit.wf, IntKind.min, IntKind.max, IntKind.signed, IntKind.bits] at h
  omega
section
variable {H : Type} {enc : TypeId × Value → H} {W : World} {base b0 : Nat} {spare : Nat → Bool} {held : Bool} {r : Reach} {v : Value} {d : DataW H} {ps : List MemPlace}
theorem trod_u8s {n : Nat} {y : DataW H × List MemPlace} (h : DataW.trod enc Tryd.prog W base spare held n 22 [v] = some y) : ∃ p L C vs, v = .slice p L C ∧ U8At W p L vs := by
  rcases open_ints Tryd.underlying22 Tryd.underlying5 (by kernel_rfl) h with ⟨hc, _⟩ | ⟨a, len, cap, zs, hc, _, hl, _, hz, _, hcell, hwf⟩
  · simp at hc
    exact ⟨none, 0, 0, [], hc, rfl, by simp, fun h => absurd h (Nat.lt_irrefl _)⟩
  · simp at hc
    have hlz : len ≤ zs.length := by rw [hz]; split <;> omega
    have hw : ∀ z ∈ zs, 0 ≤ z ∧ z < 256 := fun z hz => wf_u8 (hwf _ hz)
    refine ⟨some a, len, cap, (zs.take len).map (·.toNat), hc, by simp; omega, ?_, fun _ => ⟨a, rfl, fun j u hu => ?_⟩⟩
    · intro v hv
      obtain ⟨z, hz, rfl⟩ := List.mem_map.1 hv
      have := hw z (List.mem_of_mem_take hz)
      omega
    · have hj : j < len := by
        have := (List.getElem?_eq_some_iff.1 hu).1
        simp only [u8s, List.length_map, List.length_take] at this
        omega
      have hjz : j < zs.length := by omega
      have hzj := hw _ (List.getElem_mem hjz)
      rw [hcell j hjz]
      simp only [u8s, List.map_map, List.getElem?_map, List.getElem?_take, if_pos hj, List.getElem?_eq_getElem hjz, Option.map_some, Function.comp, Option.some.injEq] at hu
      rw [← hu, List.getD_eq_getElem?_getD, List.getElem?_eq_getElem hjz]
      congr 2
      show zs[j] = ((zs[j].toNat : Nat) : Int)
      omega
set_option maxRecDepth 100000 in
theorem open_u8s (hval : Value.okWide Tryd.prog W r b0 22 v) (h : DataW.Trod enc Tryd.prog W base spare held 22 v d ps) : ∃ p L C vs, v = .slice p L C ∧ U8At W p L vs := by
  obtain ⟨p, L, C, rfl⟩ := okWide_slice Tryd.underlying22 hval
  obtain ⟨fuel, h⟩ := h
  exact trod_u8s h
end
end Go.Proofs.YtcoeiiihmpnagaaDoor
