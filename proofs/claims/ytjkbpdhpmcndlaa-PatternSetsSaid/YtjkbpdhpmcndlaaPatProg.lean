/- The patterns' program, function for function: sets of bytes. Conditions: as each theorem names them. -/
import Derived.Test.YtjkbpdhpmcndlaaPatBuild
import Derived.Test.YtjkbpdhpmcndlaaPat
namespace Go.Proofs.Ytjkbpdhpmcndlaa
open Go.RowKit Vc
variable {w : World}

abbrev Still (w w' : World) : Prop := Mod (fun _ => False) w w'
theorem Still.trans {a b c : World} (h : Still a b) (k : Still b c) : Still a c := Mod.trans h k (fun _ h => h) (fun _ _ h => h)
theorem Still.of_below {w w' : World} (h : Below w.heap.size w w') : Still w w' := Mod.of_below h

def bcells (S : Set8) : List Value := (List.range 256).map fun i => .bool (S (UInt8.ofNat i))
@[simp] theorem bcells_length (S : Set8) : (bcells S).length = 256 := by simp [bcells]
theorem bcells_get {S : Set8} {i : Nat} (h : i < 256) : (bcells S)[i]? = some (.bool (S (UInt8.ofNat i))) := by simp [bcells, h]
theorem bcells_byte (S : Set8) (c : UInt8) : (bcells S)[c.toNat]? = some (.bool (S c)) := by
  rw [bcells_get c.toNat_lt]
  simp
theorem bcells_one (S : Set8) : ∀ v ∈ bcells S, v.oneCell' = true := by
  intro v hv
  simp only [bcells, List.mem_map] at hv
  obtain ⟨x, _, rfl⟩ := hv
  rfl
theorem bcells_congr {S T : Set8} (h : ∀ c, S c = T c) : bcells S = bcells T := by rw [show S = T from funext h]
theorem bcells_set {S : Set8} {i : Nat} (h : i < 256) (b : Bool) : (bcells S).set i (.bool b) = bcells (fun c => if c.toNat = i then b else S c) := by
  apply List.ext_getElem?
  intro j
  rw [List.getElem?_set]
  by_cases hj : j < 256
  · have hR := bcells_get (S := fun c => if c.toNat = i then b else S c) hj
    rw [hR]
    by_cases hij : i = j
    · subst hij
      have : (UInt8.ofNat i).toNat = i := by simp; omega
      rw [if_pos rfl, if_pos (by simpa using h), if_pos this]
    · have : ¬ (UInt8.ofNat j).toNat = i := by simp; omega
      rw [if_neg hij, bcells_get hj, if_neg this]
  · rw [List.getElem?_eq_none (l := bcells _) (i := j) (by simp; omega), List.getElem?_eq_none (l := bcells _) (i := j) (by simp; omega)]
    by_cases hij : i = j
    · omega
    · rw [if_neg hij]
theorem bcells_false : bcells (fun _ => false) = List.replicate 256 (.bool false) := by
  apply List.ext_getElem?
  intro j
  by_cases hj : j < 256
  · rw [bcells_get hj, List.getElem?_replicate, if_pos hj]
  · rw [List.getElem?_eq_none (by rw [bcells_length]; omega), List.getElem?_eq_none (by rw [List.length_replicate]; omega)]

section
variable {g o : Nat} {t : TypeId} {pre : List Value} {S : Set8}
theorem Row.atO (hr : Row w g t ⟨pre ++ bcells S⟩) (ho : pre.length = o) {k : Nat} (hk : k < 256) : w.cell? ((Addr.mk g o none).add (k * 1)) = some (.bool (S (UInt8.ofNat k))) := by
  rw [add_row, Nat.mul_one]
  refine hr.cellv ?_
  rw [List.getElem?_toArray, List.getElem?_append_right (by omega), ← ho, Nat.add_sub_cancel_left]
  exact bcells_get hk
theorem Row.wrO (hr : Row w g t ⟨pre ++ bcells S⟩) (ho : pre.length = o) {k : Nat} (hk : k < 256) : Wr w ((Addr.mk g o none).add (k * 1)) := by
  rw [add_row, Nat.mul_one]
  exact hr.wr _ (by simp; omega)
theorem Row.setO (hr : Row w g t ⟨pre ++ bcells S⟩) (ho : pre.length = o) {k : Nat} (hk : k < 256) (b : Bool) : Row (w.setCell ((Addr.mk g o none).add (k * 1)) (.bool b)) g t ⟨pre ++ bcells (fun c => if c.toNat = k then b else S c)⟩ := by
  rw [add_row, Nat.mul_one]
  have h := hr.setl (o + k) (.bool b)
  rw [List.set_append_right _ _ (by omega), ← ho, Nat.add_sub_cancel_left, bcells_set hk] at h
  rw [← ho]
  exact h
theorem Mod.setO {U : Nat → Prop} {a b : World} (h : Mod U a b) (hp : U g ∨ a.heap.size ≤ g) (k : Nat) (u : Value) : Mod U a (b.setCell ((Addr.mk g o none).add (k * 1)) u) := by
  rw [add_row]
  exact h.setCell hp _

set_option maxRecDepth 10000 in
theorem turn_spec (hr : Row w g t ⟨pre ++ bcells S⟩) (ho : pre.length = o) : Calls Try.prog fn_pattern_bytes_turn #[.pointer (some ⟨g, o, none⟩)] w
    (fun e w' => e = .returned (.tuple #[]) ∧ Mod (fun i => i = g) w w' ∧ Row w' g t ⟨pre ++ bcells (fun c => !S c)⟩) := by
  refine pattern_bytes_turn_calls _ _ _ ?_
  refine ⟨fun x w1 => ∃ i : Nat, x = (i : Int) ∧ i ≤ 256 ∧ Mod (fun i => i = g) w w1 ∧ Row w1 g t ⟨pre ++ bcells (fun c => if c.toNat < i then !S c else S c)⟩, fun x _ => (256 - x).toNat, ⟨0, rfl, by omega, Mod.refl _ _, by rw [bcells_congr (T := S) (fun c => by rw [if_neg (Nat.not_lt_zero _)])]; exact hr⟩, ?_⟩
  rintro _ _ w1 ⟨i, rfl, hi, hm, hr1⟩
  have e1 : IntKind.i64.wrap ((i : Int) + 1) = ((i + 1 : Nat) : Int) := by rw [wrap_i64 (by omega) (by omega)]; omega
  refine bsel_of (fun hx => ?_) (fun hx => ?_)
  · have hx := of_decide_eq_true hx
    have hx' : i < 256 := by omega
    simp only [e1, Int.toNat_natCast]
    refine ⟨by omega, by omega, _, hr1.atO ho hx', by omega, by omega, hr1.drew.wrO ho hx', ⟨i + 1, rfl, by omega, hm.drew.setO (.inl rfl) _ _, ?_⟩, by omega⟩
    have h := hr1.drew.setO ho hx' (!(if (UInt8.ofNat i).toNat < i then !S (UInt8.ofNat i) else S (UInt8.ofNat i)))
    have hi2 : (UInt8.ofNat i).toNat = i := by simp; omega
    rw [hi2, if_neg (Nat.lt_irrefl i)] at h ⊢
    rw [bcells_congr (T := fun c => if c.toNat = i then !S (UInt8.ofNat i) else if c.toNat < i then !S c else S c) (fun c => by
      by_cases h1 : c.toNat = i
      · have : UInt8.ofNat i = c := by rw [← h1]; simp
        rw [if_pos h1, this, if_pos (by omega)]
      · rw [if_neg h1]
        by_cases h2 : c.toNat < i
        · rw [if_pos (by omega), if_pos h2]
        · rw [if_neg (by omega), if_neg h2])]
    exact h
  · have hx := of_decide_eq_false hx
    obtain rfl : i = 256 := by omega
    refine ⟨rfl, hm, ?_⟩
    rw [bcells_congr (S := fun c => !S c) (T := fun c => if c.toNat < 256 then !S c else S c) (fun c => by rw [if_pos c.toNat_lt])]
    exact hr1
set_option maxRecDepth 10000 in
theorem add_spec (hr : Row w g t ⟨pre ++ bcells S⟩) (ho : pre.length = o) (lo hi : UInt8) : Calls Try.prog fn_pattern_bytes_add #[.pointer (some ⟨g, o, none⟩), .int .u8 (lo.toNat : Int), .int .u8 (hi.toNat : Int)] w
    (fun e w' => e = .returned (.tuple #[]) ∧ Mod (fun i => i = g) w w' ∧ Row w' g t ⟨pre ++ bcells (addR S lo hi)⟩) := by
  refine pattern_bytes_add_calls _ _ _ _ _ ?_
  have hl := lo.toNat_lt
  have hh := hi.toNat_lt
  unfold vc_pattern_bytes_add
  rw [wrap_i64 (n := (lo.toNat : Int)) (by omega) (by omega), wrap_i64 (n := (hi.toNat : Int)) (by omega) (by omega)]
  refine ⟨fun x w1 => ∃ i : Nat, x = (i : Int) ∧ lo.toNat ≤ i ∧ i ≤ 256 ∧ (lo.toNat ≤ hi.toNat → i ≤ hi.toNat + 1) ∧ (hi.toNat < lo.toNat → i = lo.toNat) ∧ Mod (fun i => i = g) w w1 ∧ Row w1 g t ⟨pre ++ bcells (fun c => S c || (decide (lo.toNat ≤ c.toNat) && decide (c.toNat < i)))⟩, fun x _ => (256 - x).toNat,
    ⟨lo.toNat, rfl, Nat.le_refl _, by omega, by omega, by omega, Mod.refl _ _, ?_⟩, ?_⟩
  · rw [bcells_congr (T := S) (fun c => by
      by_cases h1 : lo.toNat ≤ c.toNat
      · have h2 : ¬ c.toNat < lo.toNat := by omega
        rw [decide_eq_false h2]
        simp
      · simp [h1])]
    exact hr
  rintro _ _ w1 ⟨i, rfl, hi1, hi2, hi3, hi4, hm, hr1⟩
  have e1 : IntKind.i64.wrap ((i : Int) + 1) = ((i + 1 : Nat) : Int) := by rw [wrap_i64 (by omega) (by omega)]; omega
  refine bsel_of (fun hx => ?_) (fun hx => ?_)
  · have hx := of_decide_eq_true hx
    have hx' : i < 256 := by omega
    simp only [e1, Int.toNat_natCast]
    refine ⟨by omega, by omega, hr1.wrO ho hx', ⟨i + 1, rfl, by omega, by omega, by omega, by omega, hm.setO (.inl rfl) _ _, ?_⟩, by omega⟩
    have h := hr1.setO ho hx' true
    rw [bcells_congr (T := fun c => if c.toNat = i then true else S c || (decide (lo.toNat ≤ c.toNat) && decide (c.toNat < i))) (fun c => by
      by_cases h1 : c.toNat = i
      · rw [if_pos h1]
        have h2 : lo.toNat ≤ c.toNat := by omega
        have h3 : c.toNat < i + 1 := by omega
        simp [h2, h3]
      · rw [if_neg h1]
        have h2 : (decide (c.toNat < i + 1)) = decide (c.toNat < i) := by
          apply decide_eq_decide.2
          omega
        rw [h2])]
    exact h
  · have hx := of_decide_eq_false hx
    refine ⟨rfl, hm, ?_⟩
    rw [bcells_congr (S := addR S lo hi) (T := fun c => S c || (decide (lo.toNat ≤ c.toNat) && decide (c.toNat < i))) (fun c => by
      unfold addR
      congr 1
      by_cases h1 : lo.toNat ≤ c.toNat
      · have h2 : (decide (c.toNat ≤ hi.toNat)) = decide (c.toNat < i) := by
          apply decide_eq_decide.2
          constructor <;> intro <;> omega
        rw [h2]
      · simp [h1])]
    exact hr1
end

theorem single_spec {p : List UInt8} (h : p ≠ []) : Calls Try.prog fn_pattern_single #[.string (S p)] w
    (fun e w' => e = .returned (.tuple #[.int .u8 ((single p).1.toNat : Int), .string (S (single p).2)]) ∧ w' = w.drew) := by
  refine pattern_single_calls _ _ _ ?_
  match p, h with
  | [a], _ =>
    refine bsel_of (fun hx => ?_) (fun _ => ⟨by decide, a, rfl, by decide, by simp, rfl, rfl⟩)
    have := of_decide_eq_true hx
    simp at this
  | a :: b :: r, _ =>
    refine bsel_of (fun _ => ⟨by decide, a, rfl, bsel_of (fun ha => ?_) (fun ha => ?_)⟩) (fun hx => ?_)
    · have ha := of_decide_eq_true ha
      have ha : a = 92 := UInt8.toNat_inj.1 (Int.ofNat_inj.1 ha)
      refine ⟨by decide, b, rfl, by decide, ?_, ?_, rfl⟩
      · show (2 : Int) ≤ ((a :: b :: r).length : Int)
        simp only [List.length_cons]; omega
      · simp only [single, if_pos ha]; rfl
    · have ha := of_decide_eq_false ha
      have ha : ¬ a = 92 := fun e => ha (by rw [e]; rfl)
      refine ⟨by decide, a, rfl, by decide, ?_, ?_, rfl⟩
      · show (1 : Int) ≤ ((a :: b :: r).length : Int)
        simp only [List.length_cons]; omega
      · simp only [single, if_neg ha]; rfl
    · have := of_decide_eq_false hx
      simp at this
      omega
end Go.Proofs.Ytjkbpdhpmcndlaa
