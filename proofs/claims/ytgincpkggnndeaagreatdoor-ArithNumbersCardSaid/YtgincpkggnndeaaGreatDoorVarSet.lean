/- Variables, the program's side: what is set, marked, unset, handed on. Conditions: as each theorem names them. -/
import Derived.Test.YtgincpkggnndeaaGreatDoorVarProg2
namespace Go.Proofs.YtgincpkggnndeaaGreatDoor
open Go.RowKit Vc Go.Shelf
variable {w : World}

/-- What an act gives back. -/
def Gave (w : World) (r : List Vr × Int) (e : Ending) (w' : World) : Prop := ∃ q D, e = .returned (.tuple #[.slice q r.1.length D, .int .i64 r.2]) ∧ VarAt w' q r.1.length D r.1 ∧ Still w w'
section
variable {p : Option Addr} {n C : Nat} {l : List Vr}
theorem set_spec (h : VarAt w p n C l) (hs : Rising l) (hn : n < 900000) (s x : Txt) (hsl : s.length ≤ 9223372036854775807) : Calls Tryz.prog fn_vars_Set #[.slice p n C, .string (S s), .string (S x)] w (Gave w (setR l s x)) := by
  refine vars_Set_calls _ _ _ _ _ _ _ ?_
  have hb : Row (w.alloc (.cells #[(.string (S x))] 9)) w.heap.size 9 ⟨[.string (S x)]⟩ := Row.new _ _ _
  have hst : Still w (w.alloc (.cells #[(.string (S x))] 9)) := (Mod.refl _ _).alloc _
  have hsz : (w.alloc (.cells #[(.string (S x))] 9)).heap.size = w.heap.size + 1 := World.size_alloc ..
  have e : chR l s (fun y => if y.ro = true then 150 else 0) (fun y => { y with value := x }) = setR l s x := by
    unfold chR setR
    split
    · generalize getD s l = v
      obtain ⟨a, b, c, d⟩ := v
      cases d <;> rfl
    · rfl
  refine (changed_spec (h.still hst) hs hn s hsl (err := fun y => if y.ro = true then 150 else 0) (upd := fun y => { y with value := x }) callable_set (fun _ => rfl) ?_).mono ?_
  · intro w1 g y h1 hg hr
    have hb1 := hb.mod h1 (fun h => h)
    refine vars_Set_1_calls _ _ _ _ ?_
    refine ⟨_, by rw [add_row]; exact hr.cellv rfl, bsel_of (fun hro => ?_) (fun hro => ?_)⟩
    · refine ⟨by rw [hro]; rfl, Mod.refl _ _, fun h => ?_⟩
      rw [hro] at h
      cases h
    · refine ⟨_, hb1.cellv rfl, ?_⟩
      show Wr _ ((Addr.mk g 0 none).add 1) ∧ _
      rw [add_row]
      exact ⟨hr.wr 1 (by simp [vcell]), by rw [hro]; rfl, (Mod.refl (fun i => i = g) w1).setCell (p := Addr.mk g (0 + 1) none) (.inl rfl) _, fun _ => hr.setl 1 _⟩
  · rw [e]
    rintro _ w1 ⟨q, D, rfl, hv, h1⟩
    exact .inl ⟨_, _, _, _, rfl, q, D, rfl, hv, hst.trans h1⟩
end
end Go.Proofs.YtgincpkggnndeaaGreatDoor
