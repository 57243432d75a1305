/- What a reading of acts, or of one, tells. Conditions: as each theorem names them. -/
import Derived.Test.YtmodihbdjnklcaaVarLaw3
import Derived.Test.YtmodihbdjnklcaaRowS
namespace Go.Proofs.Ytmodihbdjnklcaa
open Go.ChangeShapes Go.WideShapes Go.ChangeAt Go.RowKit Vc

theorem Mod.toBelow {W W' : World} (h : Still W W') : Below W.heap.size W W' := h.below (Nat.le_refl _) (fun _ h => h.elim)
theorem nat_u8 {n : Int} (h : (Lit.int .u8 n).wf = true) : ∃ k : Nat, n = (k : Int) ∧ k < 256 := by
  have := wf_u8 h
  exact ⟨n.toNat, by omega, by omega⟩
section
variable {H : Type} {enc : TypeId × Value → H} {W : World} {base b0 : Nat} {spare : Nat → Bool} {held : Bool} {r : Reach} {v : Value} {d : DataW H} {ps : List MemPlace}
theorem open_acts (hval : Value.okWide Try.prog W r b0 22 v) (h : DataW.Trod enc Try.prog W base spare held 22 v d ps) (hs : Sized Try.prog 22 d) : ∃ p L C, v = .slice p L C ∧ ActsAt W p L 140737488355328 := by
  obtain ⟨p, L, C, rfl⟩ := okWide_slice Try.underlying22 hval
  refine ⟨p, L, C, rfl, ?_⟩
  obtain ⟨fuel, h⟩ := h
  rcases open_slice_fields Try.underlying22 Try.underlying26 (by kernel_rfl) (by kernel_rfl) h with ⟨hc, _⟩ | ⟨a, len, cap, m, D, Pl, hc, _, hl, _, hm, hx, hf⟩
  · simp [Value.cells] at hc
    obtain ⟨rfl, rfl, rfl⟩ := hc
    intro i hi
    omega
  · simp [Value.cells] at hc
    obtain ⟨rfl, rfl, rfl⟩ := hc
    injection hx with hx _
    subst hx
    intro i hi
    have hsi := hs.elem Try.underlying22 (d := D i) (List.mem_map.2 ⟨i, List.mem_range.2 hi, rfl⟩)
    obtain ⟨ys, n, hD, _, _, hf⟩ := hf i (by rw [hm]; split <;> omega)
    rw [hD] at hsi
    obtain ⟨v0, y0, c0, _, t0⟩ := hf 0 _ rfl
    obtain ⟨v1, y1, c1, _, t1⟩ := hf 1 _ rfl
    obtain ⟨v2, y2, c2, z2, t2⟩ := hf 2 _ rfl
    obtain ⟨v3, y3, c3, z3, t3⟩ := hf 3 _ rfl
    obtain ⟨v4, y4, c4, _, t4⟩ := hf 4 _ rfl
    obtain ⟨v5, y5, c5, _, t5⟩ := hf 5 _ rfl
    obtain ⟨x0, rfl, w0⟩ := fintcell Try.underlying5 t0
    obtain ⟨x1, rfl, w1⟩ := fintcell Try.underlying5 t1
    obtain ⟨x2, rfl, d2⟩ := fstrcell Try.underlying9 t2
    obtain ⟨x3, rfl, d3⟩ := fstrcell Try.underlying9 t3
    obtain ⟨x4, rfl⟩ := fboolcell Try.underlying4 t4
    obtain ⟨x5, rfl⟩ := fboolcell Try.underlying4 t5
    have s2 := hsi.field (j := 2) (d := y2.1) Try.underlying26 rfl (by simp [z2])
    have s3 := hsi.field (j := 3) (d := y3.1) Try.underlying26 rfl (by simp [z3])
    rw [d2] at s2
    rw [d3] at s3
    obtain ⟨k0, rfl, h0⟩ := nat_u8 w0
    obtain ⟨k1, rfl, h1⟩ := nat_u8 w1
    refine ⟨a, rfl, ⟨k0, k1, x2, x3, x4, x5⟩, c0, ?_, ?_, ?_, ?_, ?_, h0, h1, s2.str, s3.str⟩
    · rw [Go.Deep.add_add]; exact c1
    · rw [Go.Deep.add_add]; exact c2
    · rw [Go.Deep.add_add]; exact c3
    · rw [Go.Deep.add_add]; exact c4
    · rw [Go.Deep.add_add]; exact c5
theorem open_act (hval : Value.okWide Try.prog W r b0 26 v) (h : DataW.Trod enc Try.prog W base spare held 26 v d ps) (hs : Sized Try.prog 26 d) :
    ∃ c : Ac, v = c.val ∧ c.what < 256 ∧ c.nm < 256 ∧ c.raw.length ≤ 140737488355328 ∧ c.value.length ≤ 140737488355328 := by
  obtain ⟨⟨cs⟩, rfl, hsz⟩ := okWide_struct Try.underlying26 hval
  obtain ⟨fuel, h⟩ := h
  obtain ⟨xs, n, _, hx, hl, hxl, hf⟩ := DataW.trod_struct Try.underlying26 h
  injection hx with hx _
  subst hx
  have hl : cs.length = 6 := hl
  match cs, hl with
  | [v0, v1, v2, v3, v4, v5], _ =>
    match xs, hxl with
    | [y0, y1, y2, y3, y4, y5], _ =>
      obtain ⟨x0, rfl, w0⟩ := fintcell Try.underlying5 (hf 0 _ rfl)
      obtain ⟨x1, rfl, w1⟩ := fintcell Try.underlying5 (hf 1 _ rfl)
      obtain ⟨x2, rfl, d2⟩ := fstrcell Try.underlying9 (hf 2 _ rfl)
      obtain ⟨x3, rfl, d3⟩ := fstrcell Try.underlying9 (hf 3 _ rfl)
      obtain ⟨x4, rfl⟩ := fboolcell Try.underlying4 (hf 4 _ rfl)
      obtain ⟨x5, rfl⟩ := fboolcell Try.underlying4 (hf 5 _ rfl)
      have s2 := hs.field (j := 2) (d := y2.1) Try.underlying26 rfl rfl
      have s3 := hs.field (j := 3) (d := y3.1) Try.underlying26 rfl rfl
      rw [d2] at s2
      rw [d3] at s3
      obtain ⟨k0, rfl, h0⟩ := nat_u8 w0
      obtain ⟨k1, rfl, h1⟩ := nat_u8 w1
      exact ⟨⟨k0, k1, x2, x3, x4, x5⟩, rfl, h0, h1, s2.str, s3.str⟩
end
end Go.Proofs.Ytmodihbdjnklcaa
