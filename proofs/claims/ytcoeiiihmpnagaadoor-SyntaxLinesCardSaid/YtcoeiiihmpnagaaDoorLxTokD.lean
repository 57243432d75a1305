/- The lexer's deferred call: what it does behind a panic, and behind none. Conditions: as each theorem names them. -/
import Derived.Test.YtcoeiiihmpnagaaDoorGenB
import Derived.Test.YtcoeiiihmpnagaaDoorM1
import Derived.Tactics
import Derived.Tactics2
import Derived.Defers
import Derived.Recover
import Derived.Laws.Pointers
namespace Go.Proofs.YtcoeiiihmpnagaaDoor
open Go.RowKit Vc

theorem tokens_idle (p q : Addr) (w : World) :
    CallsD Tryd.prog 17 #[.pointer (some p), .pointer (some q)] .returning w fun e u' w' => e = .returned (.tuple #[]) ∧ u' = .returning ∧ w' = w := by
  refine callsD_of_wpS Tryd.func17 rfl fun c₀ cs hu => ?_
  apply wpS_seq
  apply wpS_region
  simp [wpOpsS, go_sem, recoverD, hu, Tryd.ntmps17, Exit.thenS]
  apply wpS_seq
  apply wpS_region
  simp [wpOpsS, go_sem, Tryd.ntmps17, Exit.thenS]
  refine wpS_cond (t := false) (by simp [Act.eval, Array.replicate]) ?_
  simp only [Bool.false_eq_true, if_false]
  refine wpS_of_wp (wp_skip ?_)
  cases c₀
  simp_all [bodyPostS, results, Tryd.results17]

theorem tokens_panics (p q : Addr) (n : Int) (w : World) (hp : Wr w p) (hq : Wr (w.drew.setCell p (.slice none 0 0)) q) :
    CallsD Tryd.prog 17 #[.pointer (some p), .pointer (some q)] (.panicking [{ v := .iface 33 (.int .i64 n), recovered := false }]) w fun e u' w' => e = .returned (.tuple #[]) ∧ settle u' = .returning ∧ w' = (w.drew.setCell p (.slice none 0 0)).setCell q (.int .i64 n) := by
  refine callsD_of_wpS Tryd.func17 rfl fun c₀ cs hu => ?_
  apply wpS_seq
  apply wpS_region
  simp [wpOpsS, go_sem, recoverD, hu, Tryd.ntmps17, Exit.thenS]
  apply wpS_seq
  apply wpS_region
  simp [wpOpsS, go_sem, Tryd.ntmps17, Exit.thenS]
  refine wpS_cond (t := true) (by simp [Act.eval, Array.replicate]) ?_
  simp only [if_true]
  refine wpS_of_wp ?_
  have et : (#[Value.pointer (some p), Value.pointer (some q)] ++ ((((Array.replicate 6 undef).setIfInBounds 1 (Value.iface 33 (Value.int IntKind.i64 n))).setIfInBounds 0 (Value.iface 33 (Value.int IntKind.i64 n))).setIfInBounds 2 (Value.iface 33 (Value.int IntKind.i64 n))).setIfInBounds 3 (Value.bool true)) =
      ⟨[.pointer (some p), .pointer (some q), .iface 33 (.int .i64 n), .iface 33 (.int .i64 n), .iface 33 (.int .i64 n), .bool true, undef, undef]⟩ := by rfl
  rw [et]
  refine drawn_sound (P := Tryd.prog) (m := .held) (ds := []) (l := [.pointer (some p), .pointer (some q), .iface 33 (.int .i64 n), .iface 33 (.int .i64 n), .iface 33 (.int .i64 n), .bool true, undef, undef]) (K := fun l' w' => w' = (w.drew.setCell p (.slice none 0 0)).setCell q (.int .i64 n)) (E := fun _ _ => False) (Eq.mp (α := ∃ Sw : World → Prop, Sw w.drew ∧ (Wr w.drew p ∧ Wr (w.drew.setCell p (.slice none 0 0)) q ∧ (w.drew.setCell p (.slice none 0 0)).setCell q (.int .i64 n) = (w.drew.setCell p (.slice none 0 0)).setCell q (.int .i64 n)) ∧ (Wr w.drew p ∧ Wr (w.drew.setCell p (.slice none 0 0)) q ∧ (w.drew.setCell p (.slice none 0 0)).setCell q (.int .i64 n) = (w.drew.setCell p (.slice none 0 0)).setCell q (.int .i64 n))) (by kernel_rfl) ⟨fun _ => True, trivial, ⟨hp, hq, rfl⟩, hp, hq, rfl⟩) ?_ ?_
  · rintro l' w' _ rfl
    cases c₀
    simp_all [bodyPostS, results, Tryd.results17, act, settle]
    rfl
  · intro l' c w' _ h
    exact h.elim
end Go.Proofs.YtcoeiiihmpnagaaDoor
