/- Expressions of numbers: the program's reading, walked. Conditions: the library's tables and errors lie as its text lays them (Env). -/
import Derived.Test.YtgincpkggnndeaaGreatDoorArEval2
namespace Go.Proofs.YtgincpkggnndeaaGreatDoor
open Go.RowKit Vc
variable {w : World}

abbrev PRow (w : World) (g : Nat) (s : Txt) : Prop := Row w g 57 ⟨[.string (S s)]⟩
/-- What a reading comes to. -/
def PPost (w : World) (g : Nat) (q : Pr (Tm × Txt)) (e : Ending) (w' : World) : Prop := (match q with
  | .ok p => ∃ b, e = .returned (.pointer (some ⟨b, 0, none⟩)) ∧ TreeAt w' p.1 b ∧ PRow w' g p.2
  | .bad k => e = .panicked (errP k)) ∧ Mod (fun k => k = g) w w'
theorem PRow.tree {w' : World} {g b : Nat} {s : Txt} {t : Tm} (h : PRow w g s) (ht : TreeAt w t b) (hm : Mod (fun k => k = g) w w') : TreeAt w' t b := ht.far h (by decide) (by decide) hm
theorem assigned_spec {g : Nat} {s : Txt} (h : PRow w g s) (hs : s.length ≤ 140737488355328) : Calls Tryz.prog fn_arith_parser_assigned #[.pointer (some ⟨g, 0, none⟩)] w (fun e w' => (match asg s with
    | some p => e = .returned (.tuple #[.string (S p.1), .string (S p.2.1), .bool true]) ∧ PRow w' g p.2.2
    | none => e = .returned (.tuple #[.string (S []), .string (S []), .bool false]) ∧ PRow w' g (trim s)) ∧ Mod (fun k => k = g) w w') := by
  refine arith_parser_assigned_calls _ _ _ ?_
  refine (op_spec h).mono ?_
  rintro _ w1 ⟨rfl, hr1, hm1⟩
  have htl := trim_len s
  refine .inl ⟨_, rfl, _, hr1.lget rfl, (name_spec (trim s) (by omega)).mono ?_⟩
  rintro _ w2 ⟨rfl, hs2⟩
  have hr2 : PRow w2 g (trim s) := hr1.still hs2
  have hm2 := mod_still hm1 hs2
  have hle := nameN_le true (trim s)
  have hlt : ((trim s).take (nameN true (trim s))).length = nameN true (trim s) := by rw [List.length_take]; omega
  refine .inl ⟨_, rfl, _, hr2.lget rfl, by omega, by omega, ?_⟩
  rw [hlt, Int.toNat_natCast]
  refine allocK fun w3 hr3 hs3 hz3 => allocK fun w4 hr4 hs4 hz4 => ?_
  have hs34 := hs3.trans hs4
  have hq : PRow w4 w2.heap.size ((trim s).drop (nameN true (trim s))) := hr3.still hs4
  refine (take_spec hq (l := asgOps) (StrsAt.row hr4) (fun a ha => by injection ha with ha; rw [← ha]; show w3.heap.size ≠ w2.heap.size; omega) (by decide) (by decide)).mono ?_
  rintro e w5 ⟨he, hm5⟩
  have hne : g ≠ w2.heap.size := by have := hr2.lt; omega
  have hr5 : PRow w5 g (trim s) := (hr2.still hs34).mod hm5 hne
  have hm25 : Still w2 w5 := hs34.box (Nat.le_refl _) hm5
  have hm15 := mod_still hm2 hm25
  have ea : asg s = if nameN true (trim s) ≠ 0 ∧ opAt ((trim s).drop (nameN true (trim s))) ∈ asgOps then some ((trim s).take (nameN true (trim s)), opAt ((trim s).drop (nameN true (trim s))), aft ((trim s).drop (nameN true (trim s)))) else none := rfl
  have en : (trim s).take (nameN true (trim s)) = [] ↔ nameN true (trim s) = 0 := by
    rw [← List.length_eq_zero_iff, hlt]
  by_cases ho : opAt ((trim s).drop (nameN true (trim s))) ∈ asgOps
  · rw [if_pos ho] at he
    obtain ⟨rfl, hq5⟩ := he
    refine .inl ⟨_, rfl, bsel_of (fun h1 => ?_) (fun h1 => bsel_of (fun h2 => ?_) (fun h2 => ?_))⟩
    · have h1 := en.1 (of_decide_eq_true h1)
      rw [ea, if_neg (fun e => e.1 h1)]
      exact ⟨⟨rfl, hr5⟩, hm15⟩
    · exact absurd (of_decide_eq_true h2) (asgOps_ne ho)
    · have h1 : nameN true (trim s) ≠ 0 := fun e => of_decide_eq_false h1 (en.2 e)
      rw [ea, if_pos ⟨h1, ho⟩]
      refine ⟨_, hq5.lget rfl, stK hr5 (by simp) (by simp [Value.oneCell']) fun w6 hr6 hm6 hz6 => ⟨⟨rfl, hr6⟩, mod_trans hm15 hm6⟩⟩
  · rw [if_neg ho] at he
    obtain ⟨rfl, hq5⟩ := he
    rw [ea, if_neg (fun e => ho e.2)]
    refine .inl ⟨_, rfl, bsel_of (fun h1 => ⟨⟨rfl, hr5⟩, hm15⟩) (fun h1 => bsel_of (fun h2 => ⟨⟨rfl, hr5⟩, hm15⟩) (fun h2 => absurd rfl (of_decide_eq_false h2)))⟩
end Go.Proofs.YtgincpkggnndeaaGreatDoor
