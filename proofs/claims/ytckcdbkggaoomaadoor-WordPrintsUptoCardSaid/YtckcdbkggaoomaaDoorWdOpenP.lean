/- What a reading of a list of parts tells: a tree, and its weight by the reading's bulk. Conditions: as each theorem names them. -/
import Derived.Test.YtckcdbkggaoomaaDoorWdOpen
import Derived.Test.YtckcdbkggaoomaaDoorRowU
namespace Go.Proofs.YtckcdbkggaoomaaDoor
open Go.ChangeShapes Go.WideShapes Go.ChangeAt Go.RowKit Vc
section
variable {H : Type} {enc : TypeId × Value → H} {W : World} {base b0 : Nat} {spare : Nat → Bool} {held : Bool} {r : Reach} {v : Value} {d : DataW H} {ps : List MemPlace}
def PartsRead (W : World) (v : Value) (b : Nat) : Prop := ∃ p C l, v = .slice p (List.length l) C ∧ SlAt W (fun _ => True) l (.slice p l.length C) ∧ wtL l ≤ 8 * b
set_option maxRecDepth 100000 in
theorem trod_parts : ∀ (k : Nat) (n : Nat) (v : Value) (y : DataW H × List MemPlace), Rows.uptoBulk y.1 < k → DataW.trod enc Tryd.prog W base spare held n 22 [v] = some y → PartsRead W v (Rows.uptoBulk y.1)
  | 0, _, _, _, h, _ => by omega
  | k + 1, n, v, y, hk, h => by
    rcases open_slice_fields Tryd.underlying22 Tryd.underlying39 (by kernel_rfl) (by kernel_rfl) h with ⟨hc, _⟩ | ⟨a, len, cap, m, D, Pl, hc, _, hl, _, hm, hx, hf⟩
    · simp at hc
      exact ⟨none, 0, [], hc, SlAt.nil _ _ _ _, Nat.zero_le _⟩
    · simp at hc
      subst hc hx
      have hb : Rows.uptoBulk (DataW.slice ((List.range len).map D) ((List.range (m - len)).map fun j => D (len + j))) = Rows.uptoBulkAll ((List.range len).map D) + Rows.uptoBulkAll ((List.range (m - len)).map fun j => D (len + j)) + 1 := by simp only [Rows.uptoBulk]
      rw [hb] at hk ⊢
      have each : ∀ i, i < len → ∃ x : Pt, PtAt W (fun _ => True) x (a.add (i * 6)) ∧ x.wt ≤ 8 * Rows.uptoBulk (D i) := by
        intro i hi
        have hDi : Rows.uptoBulk (D i) ≤ Rows.uptoBulkAll ((List.range len).map D) := bulk_mem (List.mem_map.2 ⟨i, List.mem_range.2 hi, rfl⟩)
        obtain ⟨ys, n, hD, _, hlen, hf⟩ := hf i (by rw [hm]; split <;> omega)
        rw [hD] at hDi ⊢
        match ys, hlen with
        | [y0, y1, y2, y3, y4, y5], _ =>
          obtain ⟨v0, z0, c0, q0, t0⟩ := hf 0 _ rfl
          obtain ⟨v1, z1, c1, q1, t1⟩ := hf 1 _ rfl
          obtain ⟨v2, z2, c2, q2, t2⟩ := hf 2 _ rfl
          obtain ⟨v3, z3, c3, q3, t3⟩ := hf 3 _ rfl
          obtain ⟨v4, z4, c4, q4, t4⟩ := hf 4 _ rfl
          obtain ⟨v5, z5, c5, q5, t5⟩ := hf 5 _ rfl
          obtain rfl := Option.some.inj q0
          obtain rfl := Option.some.inj q1
          obtain rfl := Option.some.inj q2
          obtain rfl := Option.some.inj q3
          obtain rfl := Option.some.inj q4
          obtain rfl := Option.some.inj q5
          obtain ⟨x0, rfl, _⟩ := fintcell Tryd.underlying3 t0
          obtain ⟨x1, rfl⟩ := fboolcell Tryd.underlying4 t1
          obtain ⟨x2, rfl, d2⟩ := fstrcell Tryd.underlying9 t2
          obtain ⟨x3, rfl, d3⟩ := fstrcell Tryd.underlying9 t3
          obtain ⟨x4, rfl, d4⟩ := fstrcell Tryd.underlying9 t4
          have b0 := bulk_one y0.1
          have b1 := bulk_one y1.1
          have hbi : Rows.uptoBulk (DataW.agg ([y0, y1, y2, y3, y4, y5].map (·.1))) = Rows.uptoBulk y0.1 + (Rows.uptoBulk y1.1 + ((x2.length + 1) + ((x3.length + 1) + ((x4.length + 1) + (Rows.uptoBulk y5.1 + 0))))) + 1 := by
            simp only [List.map_cons, List.map_nil, Rows.uptoBulk, Rows.uptoBulkAll, d2, d3, d4, bulk_str]
          rw [hbi] at hDi ⊢
          obtain ⟨p5, C5, l5, rfl, hs5, hw5⟩ := trod_parts k _ v5 y5 (by omega) t5
          refine ⟨.mk x0 x1 x2 x3 x4 l5, PtAt.of (v := .slice p5 l5.length C5) (fun j u hu => ?_) hs5, ?_⟩
          · rw [adds]
            match j, hu with
            | 0, hu => obtain rfl := Option.some.inj hu; exact c0
            | 1, hu => obtain rfl := Option.some.inj hu; exact c1
            | 2, hu => obtain rfl := Option.some.inj hu; exact c2
            | 3, hu => obtain rfl := Option.some.inj hu; exact c3
            | 4, hu => obtain rfl := Option.some.inj hu; exact c4
            | 5, hu => obtain rfl := Option.some.inj hu; exact c5
            | j + 6, hu => cases hu
          · simp only [Pt.wt_eq, Pt.t, Pt.n, Pt.o, Pt.w]
            omega
      have hall : ∀ k, k ≤ len → ∃ ls : List Pt, ls.length = k ∧ (∀ i x, ls[i]? = some x → PtAt W (fun _ => True) x (a.add (i * 6))) ∧ wtL ls ≤ 8 * Rows.uptoBulkAll ((List.range k).map D) := by
        intro k
        induction k with
        | zero => exact fun _ => ⟨[], rfl, fun i x h => by simp at h, Nat.zero_le _⟩
        | succ k ih =>
          intro hk
          obtain ⟨ls, h1, h2, h3⟩ := ih (by omega)
          obtain ⟨x, g1, g2⟩ := each k (by omega)
          refine ⟨ls ++ [x], by simp [h1], fun i z hz => ?_, ?_⟩
          · by_cases hi : i < ls.length
            · rw [List.getElem?_append_left hi] at hz
              exact h2 i z hz
            · rw [List.getElem?_append_right (by omega)] at hz
              have h0 : i - ls.length = 0 := by
                by_cases e : i - ls.length = 0
                · exact e
                · rw [List.getElem?_eq_none (by simp; omega)] at hz; cases hz
              rw [h0] at hz
              obtain rfl := Option.some.inj hz
              rw [show i = k by omega]
              exact g1
          · rw [List.range_succ, List.map_append, bulk_append, wtL_append, wtL_one]
            simp only [List.map_cons, List.map_nil, Rows.uptoBulkAll]
            omega
      obtain ⟨ls, h1, h2, h3⟩ := hall len (Nat.le_refl _)
      refine ⟨some a, cap, ls, by rw [h1], ⟨some a, cap, rfl, by omega, fun _ => ⟨a, rfl, trivial, PsAt.of h2⟩⟩, by omega⟩
set_option maxRecDepth 100000 in
theorem open_parts (hval : Value.okWide Tryd.prog W r b0 22 v) (h : DataW.Trod enc Tryd.prog W base spare held 22 v d ps) (_ : Sized Tryd.prog 22 d) (hb : Rows.uptoBulkAll [d] ≤ 1048576) : ∃ p C l, v = .slice p (List.length l) C ∧ SlAt W (fun _ => True) l (.slice p l.length C) ∧ wtL l < 1000000000 := by
  obtain ⟨p, L, C, rfl⟩ := okWide_slice Tryd.underlying22 hval
  obtain ⟨fuel, h⟩ := h
  obtain ⟨p, C, l, h1, h2, h3⟩ := trod_parts _ fuel _ _ (Nat.lt_succ_self _) h
  simp only [Rows.uptoBulkAll] at hb
  exact ⟨p, C, l, h1, h2, by dsimp only at h3; omega⟩
end
end Go.Proofs.YtckcdbkggaoomaaDoor
