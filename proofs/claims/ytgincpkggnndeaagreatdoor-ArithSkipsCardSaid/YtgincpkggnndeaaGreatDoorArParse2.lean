/- Expressions of numbers: the program's reading, walked by induction on the plain reading's fuel. Conditions: the library's tables and errors lie as its text lays them (Env). -/
import Derived.Test.YtgincpkggnndeaaGreatDoorArParse
import Derived.Test.YtgincpkggnndeaaGreatDoorArSz
namespace Go.Proofs.YtgincpkggnndeaaGreatDoor
open Go.RowKit Vc
variable {w : World}

theorem levels_spec : Calls Tryz.prog fn_arith_levels #[] w (fun e w' => ∃ b, e = .returned (.slice (some ⟨b, 0, none⟩) 10 10) ∧ (∀ l, l < 10 → ∃ c n, w'.cell? ⟨b, l, none⟩ = some (.slice (some ⟨c, 0, none⟩) n n) ∧ StrsAt w' (some ⟨c, 0, none⟩) n (lv l) ∧ n < 10 ∧ w.heap.size ≤ c) ∧ Still w w') := by
  refine arith_levels_calls _ _ ?_
  refine allocK fun w1 r1 s1 z1 => allocK fun w2 r2 s2 z2 => allocK fun w3 r3 s3 z3 => allocK fun w4 r4 s4 z4 => allocK fun w5 r5 s5 z5 => allocK fun w6 r6 s6 z6 => allocK fun w7 r7 s7 z7 => allocK fun w8 r8 s8 z8 => allocK fun w9 r9 s9 z9 => allocK fun w10 r10 s10 z10 => allocK fun w11 r11 s11 z11 => ?_
  have t10 := s11
  have t9 := s10.trans t10
  have t8 := s9.trans t9
  have t7 := s8.trans t8
  have t6 := s7.trans t7
  have t5 := s6.trans t6
  have t4 := s5.trans t5
  have t3 := s4.trans t4
  have t2 := s3.trans t3
  have t1 := s2.trans t2
  refine ⟨_, rfl, fun l hl => ?_, s1.trans t1⟩
  have hl : l = 0 ∨ l = 1 ∨ l = 2 ∨ l = 3 ∨ l = 4 ∨ l = 5 ∨ l = 6 ∨ l = 7 ∨ l = 8 ∨ l = 9 := by omega
  rcases hl with rfl | rfl | rfl | rfl | rfl | rfl | rfl | rfl | rfl | rfl
  · exact ⟨_, _, r11.lget rfl, StrsAt.row (l := lv 0) (r1.still t1), by decide, by omega⟩
  · exact ⟨_, _, r11.lget rfl, StrsAt.row (l := lv 1) (r2.still t2), by decide, by omega⟩
  · exact ⟨_, _, r11.lget rfl, StrsAt.row (l := lv 2) (r3.still t3), by decide, by omega⟩
  · exact ⟨_, _, r11.lget rfl, StrsAt.row (l := lv 3) (r4.still t4), by decide, by omega⟩
  · exact ⟨_, _, r11.lget rfl, StrsAt.row (l := lv 4) (r5.still t5), by decide, by omega⟩
  · exact ⟨_, _, r11.lget rfl, StrsAt.row (l := lv 5) (r6.still t6), by decide, by omega⟩
  · exact ⟨_, _, r11.lget rfl, StrsAt.row (l := lv 6) (r7.still t7), by decide, by omega⟩
  · exact ⟨_, _, r11.lget rfl, StrsAt.row (l := lv 7) (r8.still t8), by decide, by omega⟩
  · exact ⟨_, _, r11.lget rfl, StrsAt.row (l := lv 8) (r9.still t9), by decide, by omega⟩
  · exact ⟨_, _, r11.lget rfl, StrsAt.row (l := lv 9) (r10.still t10), by decide, by omega⟩
/-- A list of operators, made at once; one of them taken. -/
theorem take1_spec {g : Nat} {s : Txt} {w1 : World} {l : List Txt} {b : Nat} (h : PRow w1 g s) (hb : Row w1 b 9 ⟨strs l⟩) (hne : b ≠ g) (hn : l.length < 1000) (h0 : [] ∉ l) :
    Calls Tryz.prog fn_arith_parser_take #[.pointer (some ⟨g, 0, none⟩), .slice (some ⟨b, 0, none⟩) l.length l.length] w1 (fun e w' => (if opAt s ∈ l then e = .returned (.string (S (opAt s))) ∧ PRow w' g (aft s) else e = .returned (.string (S [])) ∧ PRow w' g (trim s)) ∧ Mod (fun k => k = g) w1 w') :=
  take_spec h (StrsAt.row hb) (fun a ha => by injection ha with ha; rw [← ha]; exact hne) hn h0
end Go.Proofs.YtgincpkggnndeaaGreatDoor
