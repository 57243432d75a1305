/- Expressions of numbers: a tree that stands in the heap, and its evaluation. Conditions: the library's tables and errors lie as its text lays them (Env). -/
import Derived.Test.YtgincpkggnndeaaGreatDoorArProg3
import Derived.OpenShut
namespace Go.Proofs.YtgincpkggnndeaaGreatDoor
open Go.RowKit Vc
variable {w : World}

theorem wrap_in (n : Int) : I64 (IntKind.i64.wrap n) := by
  unfold I64
  simp only [IntKind.wrap, IntKind.signed, IntKind.bits]
  simp
  omega
theorem bits_in (op : BinOp) (a b : Int) : I64 (bits op .i64 a b) := by
  have h := wf_bits op .i64 a b
  simp [Lit.wf, IntKind.min, IntKind.max, IntKind.signed, IntKind.bits] at h
  unfold I64
  omega
theorem truth_in (b : Bool) : I64 (truthI b) := by cases b <;> decide
theorem tmod_in {a b : Int} (ha : I64 a) (_hb : I64 b) : I64 (Int.tmod a b) := by
  unfold I64 at *
  have h1 : (Int.tmod a b).natAbs ≤ a.natAbs := by
    rw [Int.natAbs_tmod]
    exact Nat.mod_le _ _
  rcases Int.lt_or_le a 0 with h | h
  · have h2 : Int.tmod a b ≤ 0 := by
      have := Int.tmod_nonneg b (show 0 ≤ -a by omega)
      rw [Int.neg_tmod] at this
      omega
    omega
  · have h2 := Int.tmod_nonneg b h
    omega
theorem fdiv_in {a : Int} (ha : I64 a) (k : Nat) : I64 (Int.fdiv a (2 ^ k)) := by
  unfold I64 at *
  have hp : (0 : Int) < 2 ^ k := Int.pow_pos (by decide)
  generalize (2 : Int) ^ k = d at hp
  rw [Int.fdiv_eq_ediv_of_nonneg _ (by omega)]
  have h1 := Int.mul_ediv_add_emod a d
  have h2 := Int.emod_nonneg a (show d ≠ 0 by omega)
  have h3 := Int.emod_lt_of_pos a hp
  constructor
  · rcases Int.lt_or_le (a / d) (-9223372036854775808) with h | h
    · exfalso
      have h4 : d * (a / d) ≤ 1 * (a / d) := Int.mul_le_mul_of_nonpos_right (by omega) (by omega)
      have h5 : d * (a / d) ≤ d * (-9223372036854775809) := Int.mul_le_mul_of_nonneg_left (by omega) (by omega)
      omega
    · exact h
  · rcases Int.lt_or_le (a / d) 9223372036854775808 with h | h
    · exact h
    · exfalso
      have h4 : 1 * (a / d) ≤ d * (a / d) := Int.mul_le_mul_of_nonneg_right (by omega) (by omega)
      omega
theorem ite_in {p : Prop} [Decidable p] {x y : Int} (hx : I64 x) (hy : I64 y) : I64 (if p then x else y) := by split <;> assumption
theorem reck_in {op : Txt} {a b z : Int} (ha : I64 a) (hb : I64 b) (h : reck op a b = .ok z) : I64 z := by
  unfold reck at h
  split at h
  · cases h
  · injection h with h
    rw [← h]
    unfold reckV
    repeat' first | exact wrap_in _ | exact bits_in _ _ _ | exact truth_in _ | exact tmod_in ha hb | exact fdiv_in ha _ | refine ite_in ?_ ?_
theorem una_in {op : Txt} {n : Int} (h : I64 n) : I64 (una op n) := by
  unfold una
  repeat' first | exact wrap_in _ | exact bits_in _ _ _ | exact truth_in _ | exact h | refine ite_in ?_ ?_
/-- How much there is of a tree: its names' bytes, and its assignments. -/
def szT : Tm → Nat
  | .num _ => 0
  | .nam x => x.length
  | .sgn _ t => szT t
  | .bin _ a b => szT a + szT b
  | .cho c a b => szT c + szT a + szT b
  | .set x _ t => x.length + 1 + szT t
def binK (op : Txt) : Int := if op = [124, 124] then 5 else if op = [38, 38] then 4 else 3
abbrev tcell (k n : Int) (op x : Txt) (kids : Value) : List Value := [.int .i64 k, .int .i64 n, .string (S op), .string (S x), kids]
abbrev kid (b : Nat) : Value := .pointer (some ⟨b, 0, none⟩)
abbrev kids (c n : Nat) : Value := .slice (some ⟨c, 0, none⟩) n n
def TreeAt (w : World) : Tm → Nat → Prop
  | .num n, b => Row w b 79 ⟨tcell 0 n [] [] (.slice none 0 0)⟩
  | .nam x, b => Row w b 79 ⟨tcell 1 0 [] x (.slice none 0 0)⟩
  | .sgn op t, b => ∃ c k, Row w b 79 ⟨tcell 2 0 op [] (kids c 1)⟩ ∧ Row w c 59 ⟨[kid k]⟩ ∧ TreeAt w t k
  | .bin op x y, b => ∃ c k1 k2, Row w b 79 ⟨tcell (binK op) 0 op [] (kids c 2)⟩ ∧ Row w c 59 ⟨[kid k1, kid k2]⟩ ∧ TreeAt w x k1 ∧ TreeAt w y k2
  | .cho t x y, b => ∃ c k0 k1 k2, Row w b 79 ⟨tcell 6 0 [] [] (kids c 3)⟩ ∧ Row w c 59 ⟨[kid k0, kid k1, kid k2]⟩ ∧ TreeAt w t k0 ∧ TreeAt w x k1 ∧ TreeAt w y k2
  | .set x op t, b => ∃ c k, Row w b 79 ⟨tcell 7 0 op x (kids c 1)⟩ ∧ Row w c 59 ⟨[kid k]⟩ ∧ TreeAt w t k
theorem TreeAt.mod {S : Nat → Prop} {w' : World} (hm : Mod S w w') (hS : ∀ b t cs, (t = 79 ∨ t = 59) → Row w b t cs → ¬ S b) : ∀ {t : Tm} {b : Nat}, TreeAt w t b → TreeAt w' t b
  | .num _, b, h => Row.mod h hm (hS _ _ _ (.inl rfl) h)
  | .nam _, b, h => Row.mod h hm (hS _ _ _ (.inl rfl) h)
  | .sgn _ _, b, ⟨c, k, h1, h2, h3⟩ => ⟨c, k, h1.mod hm (hS _ _ _ (.inl rfl) h1), h2.mod hm (hS _ _ _ (.inr rfl) h2), TreeAt.mod hm hS h3⟩
  | .bin _ _ _, b, ⟨c, k1, k2, h1, h2, h3, h4⟩ => ⟨c, k1, k2, h1.mod hm (hS _ _ _ (.inl rfl) h1), h2.mod hm (hS _ _ _ (.inr rfl) h2), TreeAt.mod hm hS h3, TreeAt.mod hm hS h4⟩
  | .cho _ _ _, b, ⟨c, k0, k1, k2, h1, h2, h3, h4, h5⟩ => ⟨c, k0, k1, k2, h1.mod hm (hS _ _ _ (.inl rfl) h1), h2.mod hm (hS _ _ _ (.inr rfl) h2), TreeAt.mod hm hS h3, TreeAt.mod hm hS h4, TreeAt.mod hm hS h5⟩
  | .set _ _ _, b, ⟨c, k, h1, h2, h3⟩ => ⟨c, k, h1.mod hm (hS _ _ _ (.inl rfl) h1), h2.mod hm (hS _ _ _ (.inr rfl) h2), TreeAt.mod hm hS h3⟩
theorem TreeAt.still {w' : World} {t : Tm} {b : Nat} (h : TreeAt w t b) (hm : Still w w') : TreeAt w' t b := h.mod hm (fun _ _ _ _ _ h => h)
/-- A row of another kind is turned. -/
theorem TreeAt.far {w' : World} {t : Tm} {b g : Nat} {tg : TypeId} {cs : Array Value} (h : TreeAt w t b) (hg : Row w g tg cs) (h1 : tg ≠ 79) (h2 : tg ≠ 59) (hm : Mod (fun k => k = g) w w') : TreeAt w' t b := by
  refine h.mod hm (fun b t cs ht hr e => ?_)
  subst e
  rcases ht with rfl | rfl
  · exact hr.ne hg h1.symm rfl
  · exact hr.ne hg h2.symm rfl
theorem Row.far' {w' : World} {b g : Nat} {t tg : TypeId} {cs cs' : Array Value} (h : Row w b t cs) (hg : Row w g tg cs') (hne : t ≠ tg) (hm : Mod (fun k => k = g) w w') : Row w' b t cs := h.mod hm (h.ne hg hne)
end Go.Proofs.YtgincpkggnndeaaGreatDoor
