/- The parser's deferred call: what it does behind a panic, and behind none. Conditions: as each theorem names them. -/
import Derived.Test.YtcoeiiihmpnagaaDoorSyCom
import Derived.Tactics
import Derived.Tactics2
import Derived.Defers
import Derived.Recover
import Derived.Laws.Pointers
namespace Go.Proofs.YtcoeiiihmpnagaaDoor
open Go.RowKit Vc

theorem parse_idle (p q : Addr) (w : World) :
    CallsD Tryd.prog 12 #[.pointer (some p), .pointer (some q)] .returning w fun e u' w' => e = .returned (.tuple #[]) ∧ u' = .returning ∧ w' = w := by
  refine callsD_of_wpS Tryd.func12 rfl fun c₀ cs hu => ?_
  apply wpS_seq
  apply wpS_region
  simp [wpOpsS, go_sem, recoverD, hu, Tryd.ntmps12, Exit.thenS]
  apply wpS_seq
  apply wpS_region
  simp [wpOpsS, go_sem, Tryd.ntmps12, Exit.thenS]
  refine wpS_cond (t := false) (by simp [Act.eval, Array.replicate]) ?_
  simp only [Bool.false_eq_true, if_false]
  refine wpS_of_wp (wp_skip ?_)
  cases c₀
  simp_all [bodyPostS, results, Tryd.results12]

theorem parse_panics (p q : Addr) (n : Int) (w : World) (P : World → Prop) (h : stCells p (fun w1 => stCells q P 0 [.int .i64 n] w1) 0 [(.int .i64 0), (.bool false), (.string (S ([] : List UInt8))), (.slice none 0 0), (.slice none 0 0), (.slice none 0 0), (.slice none 0 0), (.slice none 0 0)] w.drew) :
    CallsD Tryd.prog 12 #[.pointer (some p), .pointer (some q)] (.panicking [{ v := .iface 33 (.int .i64 n), recovered := false }]) w fun e u' w' => e = .returned (.tuple #[]) ∧ settle u' = .returning ∧ P w' := by
  refine callsD_of_wpS Tryd.func12 rfl fun c₀ cs hu => ?_
  apply wpS_seq
  apply wpS_region
  simp [wpOpsS, go_sem, recoverD, hu, Tryd.ntmps12, Exit.thenS]
  apply wpS_seq
  apply wpS_region
  simp [wpOpsS, go_sem, Tryd.ntmps12, Exit.thenS]
  refine wpS_cond (t := true) (by simp [Act.eval, Array.replicate]) ?_
  simp only [if_true]
  refine wpS_of_wp ?_
  have et : (#[Value.pointer (some p), Value.pointer (some q)] ++ ((((Array.replicate 7 undef).setIfInBounds 1 (Value.iface 33 (Value.int IntKind.i64 n))).setIfInBounds 0 (Value.iface 33 (Value.int IntKind.i64 n))).setIfInBounds 2 (Value.iface 33 (Value.int IntKind.i64 n))).setIfInBounds 3 (Value.bool true)) =
      ⟨[.pointer (some p), .pointer (some q), .iface 33 (.int .i64 n), .iface 33 (.int .i64 n), .iface 33 (.int .i64 n), .bool true, undef, undef, undef]⟩ := by rfl
  rw [et]
  refine drawn_sound (P := Tryd.prog) (m := .held) (ds := []) (l := [.pointer (some p), .pointer (some q), .iface 33 (.int .i64 n), .iface 33 (.int .i64 n), .iface 33 (.int .i64 n), .bool true, undef, undef, undef]) (K := fun l' w' => P w') (E := fun _ _ => False) (Eq.mp (α := ∃ Sw : World → Prop, Sw w.drew ∧ (stCells p (fun w1 => stCells q P 0 [.int .i64 n] w1) 0 [(.int .i64 0), (.bool false), (.string (S ([] : List UInt8))), (.slice none 0 0), (.slice none 0 0), (.slice none 0 0), (.slice none 0 0), (.slice none 0 0)] w.drew) ∧ (stCells p (fun w1 => stCells q P 0 [.int .i64 n] w1) 0 [(.int .i64 0), (.bool false), (.string (S ([] : List UInt8))), (.slice none 0 0), (.slice none 0 0), (.slice none 0 0), (.slice none 0 0), (.slice none 0 0)] w.drew)) (by kernel_rfl) ⟨fun _ => True, trivial, h, h⟩) ?_ ?_
  · intro l' w' _ hP
    cases c₀
    simp_all [bodyPostS, results, Tryd.results12, act, settle]
  · intro l' c w' _ h
    exact h.elim
end Go.Proofs.YtcoeiiihmpnagaaDoor
