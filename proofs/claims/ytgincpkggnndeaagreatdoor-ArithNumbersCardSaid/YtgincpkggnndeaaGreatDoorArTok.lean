/- Expressions of numbers: the deferred call of Eval, behind a panic, and behind none. Conditions: as each theorem names them. -/
import Derived.Test.YtgincpkggnndeaaGreatDoorGen
import Derived.Test.YtgincpkggnndeaaGreatDoorM1
import Derived.Tactics
import Derived.Tactics2
import Derived.Defers
import Derived.Recover
import Derived.Laws.Pointers
namespace Go.Proofs.YtgincpkggnndeaaGreatDoor
open Go.RowKit Vc

theorem eval1_idle (p q r : Addr) (w : World) :
    CallsD Tryz.prog 26 #[.pointer (some p), .pointer (some q), .pointer (some r)] .returning w fun e u' w' => e = .returned (.tuple #[]) ∧ u' = .returning ∧ w' = w := by
  refine callsD_of_wpS Tryz.func26 rfl fun c₀ cs hu => ?_
  apply wpS_seq
  apply wpS_region
  simp [wpOpsS, go_sem, recoverD, hu, Tryz.ntmps26, Exit.thenS]
  apply wpS_seq
  apply wpS_region
  simp [wpOpsS, go_sem, Tryz.ntmps26, Exit.thenS]
  refine wpS_cond (t := false) (by simp [Act.eval, Array.replicate]) ?_
  simp only [Bool.false_eq_true, if_false]
  refine wpS_of_wp (wp_skip ?_)
  cases c₀
  simp_all [bodyPostS, results, Tryz.results26]

theorem eval1_panics (p q r : Addr) (n : Int) (w : World) (hp : Wr w.drew p) (hq : Wr (w.drew.setCell p (.int .i64 0)) q) (hr : Wr ((w.drew.setCell p (.int .i64 0)).setCell q (.slice none 0 0)) r) :
    CallsD Tryz.prog 26 #[.pointer (some p), .pointer (some q), .pointer (some r)] (.panicking [{ v := .iface 36 (.int .i64 n), recovered := false }]) w fun e u' w' => e = .returned (.tuple #[]) ∧ settle u' = .returning ∧ w' = ((w.drew.setCell p (.int .i64 0)).setCell q (.slice none 0 0)).setCell r (.int .i64 n) := by
  refine callsD_of_wpS Tryz.func26 rfl fun c₀ cs hu => ?_
  apply wpS_seq
  apply wpS_region
  simp [wpOpsS, go_sem, recoverD, hu, Tryz.ntmps26, Exit.thenS]
  apply wpS_seq
  apply wpS_region
  simp [wpOpsS, go_sem, Tryz.ntmps26, Exit.thenS]
  refine wpS_cond (t := true) (by simp [Act.eval, Array.replicate]) ?_
  simp only [if_true]
  refine wpS_of_wp ?_
  have et : (#[Value.pointer (some p), Value.pointer (some q), Value.pointer (some r)] ++ ((((Array.replicate 6 undef).setIfInBounds 1 (Value.iface 36 (Value.int IntKind.i64 n))).setIfInBounds 0 (Value.iface 36 (Value.int IntKind.i64 n))).setIfInBounds 2 (Value.iface 36 (Value.int IntKind.i64 n))).setIfInBounds 3 (Value.bool true)) =
      ⟨[.pointer (some p), .pointer (some q), .pointer (some r), .iface 36 (.int .i64 n), .iface 36 (.int .i64 n), .iface 36 (.int .i64 n), .bool true, undef, undef]⟩ := by rfl
  rw [et]
  refine drawn_sound (P := Tryz.prog) (m := .held) (ds := []) (l := [.pointer (some p), .pointer (some q), .pointer (some r), .iface 36 (.int .i64 n), .iface 36 (.int .i64 n), .iface 36 (.int .i64 n), .bool true, undef, undef]) (K := fun l' w' => w' = ((w.drew.setCell p (.int .i64 0)).setCell q (.slice none 0 0)).setCell r (.int .i64 n)) (E := fun _ _ => False) (Eq.mp (α := ∃ Sw : World → Prop, Sw w.drew ∧ (Wr w.drew p ∧ Wr (w.drew.setCell p (.int .i64 0)) q ∧ Wr ((w.drew.setCell p (.int .i64 0)).setCell q (.slice none 0 0)) r ∧ ((w.drew.setCell p (.int .i64 0)).setCell q (.slice none 0 0)).setCell r (.int .i64 n) = ((w.drew.setCell p (.int .i64 0)).setCell q (.slice none 0 0)).setCell r (.int .i64 n)) ∧ (Wr w.drew p ∧ (Wr (w.drew.setCell p (.int .i64 0)) q ∧ Wr ((w.drew.setCell p (.int .i64 0)).setCell q (.slice none 0 0)) r ∧ ((w.drew.setCell p (.int .i64 0)).setCell q (.slice none 0 0)).setCell r (.int .i64 n) = ((w.drew.setCell p (.int .i64 0)).setCell q (.slice none 0 0)).setCell r (.int .i64 n)) ∧ (Wr (w.drew.setCell p (.int .i64 0)) q ∧ Wr ((w.drew.setCell p (.int .i64 0)).setCell q (.slice none 0 0)) r ∧ ((w.drew.setCell p (.int .i64 0)).setCell q (.slice none 0 0)).setCell r (.int .i64 n) = ((w.drew.setCell p (.int .i64 0)).setCell q (.slice none 0 0)).setCell r (.int .i64 n)))) (by kernel_rfl) ⟨fun _ => True, trivial, ⟨hp, hq, hr, rfl⟩, hp, ⟨hq, hr, rfl⟩, hq, hr, rfl⟩) ?_ ?_
  · rintro l' w' _ rfl
    cases c₀
    simp_all [bodyPostS, results, Tryz.results26, act, settle]
    rfl
  · intro l' c w' _ h
    exact h.elim
end Go.Proofs.YtgincpkggnndeaaGreatDoor
