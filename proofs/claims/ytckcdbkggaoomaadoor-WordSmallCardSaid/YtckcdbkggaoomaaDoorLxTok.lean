/- lexer.Unit: its deferred call, behind a panic, and behind none; how long a unit is. Conditions: texts of fewer than a million bytes. -/
import Derived.Test.YtckcdbkggaoomaaDoorLxProg
import Derived.Tactics
import Derived.Tactics2
import Derived.Defers
import Derived.Recover
import Derived.Laws.Pointers
namespace Go.Proofs.YtckcdbkggaoomaaDoor
open Go.RowKit Vc

theorem ta_nil (w : World) : (Instr.typeAssert .nilIface 20 23 true).run Tryd.prog w = .ok (.tuple #[.int .i64 0, .bool false]) w := by kernel_rfl
theorem ta_err (w : World) (n : Int) : (Instr.typeAssert (.iface 23 (.int .i64 n)) 20 23 true).run Tryd.prog w = .ok (.tuple #[.int .i64 n, .bool true]) w := by kernel_rfl
set_option maxRecDepth 4000 in
theorem unit1_idle (p : Addr) (w : World) :
    CallsD Tryd.prog 68 #[.pointer (some p)] .returning w fun e u' w' => e = .returned (.tuple #[]) ∧ u' = .returning ∧ w' = w := by
  refine callsD_of_wpS Tryd.func68 rfl fun c₀ cs hu => ?_
  apply wpS_seq
  apply wpS_region
  simp [wpOpsS, go_sem, recoverD, hu, Tryd.ntmps68, Exit.thenS]
  apply wpS_seq
  apply wpS_region
  simp [wpOpsS, go_sem, Exit.thenS, ta_nil]
  apply wpS_seq
  apply wpS_region
  simp [wpOpsS, go_sem, Tryd.ntmps68, Exit.thenS]
  refine wpS_cond (t := false) (by simp [Act.eval, Array.replicate]) ?_
  simp only [Bool.false_eq_true, if_false]
  refine wpS_of_wp (wp_skip ?_)
  cases c₀
  simp_all [bodyPostS, results, Tryd.results68]
set_option maxRecDepth 4000 in
theorem unit1_panics (p : Addr) (n : Int) (w : World) (hp : Wr w p) :
    CallsD Tryd.prog 68 #[.pointer (some p)] (.panicking [{ v := .iface 23 (.int .i64 n), recovered := false }]) w fun e u' w' => e = .returned (.tuple #[]) ∧ settle u' = .returning ∧ w' = w.setCell p (.int .i64 0) := by
  refine callsD_of_wpS Tryd.func68 rfl fun c₀ cs hu => ?_
  apply wpS_seq
  apply wpS_region
  simp [wpOpsS, go_sem, recoverD, hu, Tryd.ntmps68, Exit.thenS]
  apply wpS_seq
  apply wpS_region
  simp [wpOpsS, go_sem, Exit.thenS, ta_err]
  apply wpS_seq
  apply wpS_region
  simp [wpOpsS, go_sem, Tryd.ntmps68, Exit.thenS]
  refine wpS_cond (t := true) (by simp [Act.eval, Array.replicate]) ?_
  simp only [if_true]
  obtain ⟨h1, h2⟩ := hp
  obtain ⟨v0, hc⟩ := Option.isSome_iff_exists.1 h1
  apply wpS_region
  simp [wpOpsS, go_sem, hc, h2]
  cases c₀
  simp_all [bodyPostS, results, Tryd.results68, settle]
/-- How long the unit at a text's head is; 0: it does not end. -/
def unitN (s : Txt) : Nat := match unitD 30 s with
  | some t => s.length - t.length
  | none => 0
theorem unitN_pos {s t : Txt} (h : unitD 30 s = some t) : unitN s = s.length - t.length ∧ 0 < unitN s ∧ unitN s ≤ s.length := by
  have := unitD_takes 30 _ _ h
  unfold unitN
  rw [h]
  dsimp only
  omega
theorem Unit_spec {w : World} (s : Txt) (hl : s.length < 1000000) : Calls Tryd.prog fn_lexer_Unit #[.string (S s)] w (fun e w' => e = .returned (.int .i64 (unitN s : Int)) ∧ Still w w') := by
  refine lexer_Unit_calls _ _ _ ?_
  refine allocK fun w1 r1 s1 z1 => allocK fun w2 r2 s2 z2 => ?_
  have r1' := r1.still s2
  have s02 := s1.trans s2
  refine (want_spec _).mono ?_
  rintro _ w3 ⟨rfl, rfl⟩
  have bad : ∀ {w4 : World}, Row w4 w.heap.size 3 ⟨[.int .i64 0]⟩ → Still w w4 → unitD 30 s = none →
      CallsD Tryd.prog fn_lexer_Unit_1 #[.pointer (some ⟨w.heap.size, 0, none⟩)] (.panicking quoteP) w4 (fun ed u w7 => (∃ rv, ed = .returned rv) ∧ settle u = .returning ∧ ∃ v2 : Int, w7.cell? ⟨w.heap.size, 0, none⟩ = some (.int .i64 v2) ∧ (Ending.returned (.int .i64 v2) = .returned (.int .i64 (unitN s : Int)) ∧ Still w w7)) := by
    intro w4 r4 s4 hn
    refine (unit1_panics ⟨w.heap.size, 0, none⟩ 80 w4 (r4.wr 0 (by simp))).mono ?_
    rintro e u w7 ⟨rfl, hu, rfl⟩
    refine ⟨⟨_, rfl⟩, hu, 0, (r4.setl 0 (.int .i64 0)).lget rfl, ?_, s4.box (Nat.le_refl _) ((Mod.refl (fun i => i = w.heap.size) w4).setCell (p := ⟨w.heap.size, 0, none⟩) (.inl rfl) _)⟩
    unfold unitN
    rw [hn]
    rfl
  by_cases hs : s = []
  · subst hs
    rw [if_neg (by decide)]
    exact .inr ⟨_, rfl, bad r1' s02 rfl⟩
  rw [if_pos (by simpa using hs)]
  refine .inl ⟨rfl, (unit_spec (g := w1.heap.size) hs r2 hl).mono ?_⟩
  rintro e w4 ⟨hm, h⟩
  have r4 : Row w4 w.heap.size 3 ⟨[.int .i64 0]⟩ := r1'.mod hm (by rintro e; have := r1.lt; omega)
  have s4 : Still w w4 := s02.box (by omega) hm
  cases hu : unitD 30 s with
  | none =>
    rw [hu] at h
    obtain ⟨rfl, _⟩ := h
    exact .inr ⟨_, rfl, bad r4 s4 hu⟩
  | some t =>
    rw [hu] at h
    obtain ⟨rfl, hsc⟩ := h
    have hk := unitN_pos hu
    refine .inl ⟨rfl, t, hsc.cell, ?_⟩
    rw [show IntKind.i64.wrap ((s.length : Int) - (t.length : Int)) = (unitN s : Int) by rw [wrap_i64 (by omega) (by omega)]; omega]
    refine stK r4 (by simp) (by simp [Value.oneCell']) fun w5 r5 m5 _ => ?_
    refine (unit1_idle _ _).mono ?_
    rintro _ _ _ ⟨rfl, rfl, rfl⟩
    exact ⟨⟨_, rfl⟩, rfl, _, r5.lget rfl, rfl, s4.box (Nat.le_refl _) m5⟩
end Go.Proofs.YtckcdbkggaoomaaDoor
