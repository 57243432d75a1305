/- Texts of pieces by numbers. Conditions: as each theorem names them. -/
import Derived.Test.YtiaonlaodcmigaaLexRef3
namespace Go.Proofs.Ytiaonlaodcmigaa
open Go.RowKit Vc
variable {w : World}

theorem Mod.cell {w w' : World} {a : Addr} {v : Value} (hm : Still w w') (h : w.cell? a = some v) : w'.cell? a = some v :=
  (World.cell?_of_block (hm.block _ (World.block_lt_of_cell? _ _ h) (fun h => h))).trans h
/-- Numbers that may be read. -/
def U8s (w : World) (l : Option Addr) (n : Nat) : Prop := ∀ i, i < n → ∃ (a : Addr) (v : Nat), l = some a ∧ v < 256 ∧ w.cell? (a.add (i * 1)) = some (.int .u8 (v : Int))
theorem U8s.still {w w' : World} {l : Option Addr} {n : Nat} (h : U8s w l n) (hm : Still w w') : U8s w' l n := fun i hi => by
  obtain ⟨a, v, h1, h2, h3⟩ := h i hi
  exact ⟨a, v, h1, h2, hm.cell h3⟩
theorem pieces_of {l : Option Addr} {lL lC g : Nat} {sg : List (List UInt8)} (hl : U8s w l lL) (hr : Row w g 9 ⟨strs sg⟩) (h0 : 0 < sg.length) (h1 : sg.length < 1000) (h8 : ∀ x ∈ sg, x.length ≤ 8) :
    Calls Try.prog fn_law07_Pieces #[.slice l lL lC, .slice (some ⟨g, 0, none⟩) sg.length sg.length] w (fun e w' => ∃ r : List UInt8, e = .returned (.string (S r)) ∧ r.length ≤ 112 ∧ w' = w) := by
  refine law07_Pieces_calls _ _ _ _ _ _ _ _ ?_
  refine ⟨fun s i w1 => ∃ n : Nat, i = (n : Int) ∧ n ≤ 14 ∧ s.length ≤ n * 8 ∧ w1 = w, fun _ i _ => 14 - i.toNat, ⟨0, rfl, by omega, by simp, rfl⟩, ?_⟩
  rintro s _ _ w1 ⟨n, rfl, hn, hs, rfl⟩
  have e1 : IntKind.i64.wrap ((n : Int) + 1) = ((n + 1 : Nat) : Int) := by rw [wrap_i64 (by omega) (by omega)]; omega
  refine bsel_of (fun hx => bsel_of (fun hy => ?_) (fun _ => ⟨s, rfl, by omega, rfl⟩)) (fun _ => ⟨s, rfl, by omega, rfl⟩)
  have hx : n < lL := by have := of_decide_eq_true hx; omega
  have hy : n < 14 := by have := of_decide_eq_true hy; omega
  obtain ⟨a, v, rfl, hv, hc⟩ := hl n hx
  have ev : IntKind.i64.wrap (v : Int) = (v : Int) := wrap_i64 (by omega) (by omega)
  have et : Int.tmod (v : Int) (sg.length : Int) = ((v % sg.length : Nat) : Int) := by
    rw [Int.tmod_eq_emod_of_nonneg (by omega)]
    exact (Int.natCast_emod _ _).symm
  have hlt : v % sg.length < sg.length := Nat.mod_lt _ h0
  have hg : sg[v % sg.length]? = some sg[v % sg.length] := List.getElem?_eq_getElem hlt
  have hl8 := h8 _ (List.getElem_mem hlt)
  refine ⟨by omega, by omega, (v : Int), by rw [Int.toNat_natCast]; exact hc, by omega, ?_⟩
  rw [ev, et, e1, Int.toNat_natCast]
  refine ⟨by omega, by omega, sg[v % sg.length], ?_, by omega, ⟨n + 1, rfl, hy, by simp; omega, rfl⟩, by dsimp only; omega⟩
  rw [add_row, Nat.zero_add, Nat.mul_one]
  refine hr.cellv ?_
  simp [strs, hg]
end Go.Proofs.Ytiaonlaodcmigaa
