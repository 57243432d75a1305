/- The digest, function for function: what each answers. Conditions: as each theorem names them. -/
import Derived.Test.YtpomdpokbdaahaaGen
import Derived.Test.YtpomdpokbdaahaaWord
namespace Go.Proofs.Ytpomdpokbdaahaa
open Go.RowKit Vc

/-- No block of the world has turned. -/
abbrev Still (w w' : World) : Prop := Mod (fun _ => False) w w'
variable {w : World}

theorem Row.at {w : World} {g : Nat} {t : TypeId} {cs : List Value} (h : Row w g t ⟨cs⟩) {k : Nat} {v : Value} (hv : cs[k]? = some v) : w.cell? ((Addr.mk g 0 none).add (k * 1)) = some v := by
  rw [add_row, Nat.zero_add, Nat.mul_one]
  exact h.cellv (by simpa using hv)
theorem Row.at1 {w : World} {g : Nat} {t : TypeId} {cs : List Value} (h : Row w g t ⟨cs⟩) {k : Nat} {v : Value} (hv : cs[k]? = some v) : w.cell? ((Addr.mk g 0 none).add k) = some v := by
  rw [add_row, Nat.zero_add]
  exact h.cellv (by simpa using hv)
theorem Row.wrAt {w : World} {g : Nat} {t : TypeId} {cs : List Value} (h : Row w g t ⟨cs⟩) {k : Nat} (hk : k < cs.length) : Wr w ((Addr.mk g 0 none).add (k * 1)) := by
  rw [add_row, Nat.zero_add, Nat.mul_one]
  exact h.wr _ (by simpa using hk)
theorem Row.setAt {w : World} {g : Nat} {t : TypeId} {cs : List Value} (h : Row w g t ⟨cs⟩) (k : Nat) (u : Value) : Row (w.setCell ((Addr.mk g 0 none).add (k * 1)) u) g t ⟨cs.set k u⟩ := by
  rw [add_row, Nat.zero_add, Nat.mul_one]
  exact h.setl _ _
theorem Row.farAt {w : World} {g p : Nat} {t : TypeId} {cs : Array Value} (h : Row w g t cs) (hne : g ≠ p) (k : Nat) (u : Value) : Row (w.setCell ((Addr.mk p 0 none).add (k * 1)) u) g t cs := by
  rw [add_row, Nat.zero_add, Nat.mul_one]
  exact h.far hne _
theorem Mod.setAt {S : Nat → Prop} {a b : World} (h : Mod S a b) {p : Nat} (hp : S p ∨ a.heap.size ≤ p) (k : Nat) (u : Value) : Mod S a (b.setCell ((Addr.mk p 0 none).add (k * 1)) u) := by
  rw [add_row, Nat.zero_add, Nat.mul_one]
  exact h.setCell hp _

/-! ### Words -/
theorem rot_count : ∀ n : Fin 32, n.val ≠ 0 → bits .and .u64 (IntKind.u64.wrap (IntKind.i64.wrap (0 - (n.val : Int)))) 31 = ((32 - n.val : Nat) : Int) := by decide
theorem turned_spec (x : B) (n : Nat) (h0 : n ≠ 0) (h1 : n < 32) : Calls Try.prog fn_digest_turned #[uv x, .int .i64 (n : Int)] w (fun e w' => e = .returned (uv (rotr x n)) ∧ w' = w) := by
  refine digest_turned_calls _ _ _ _ ?_
  have hr := rot_count ⟨n, h1⟩ h0
  dsimp only at hr
  have hw : IntKind.u64.wrap (32 - ((32 - n : Nat) : Int)) = ((n : Nat) : Int) := by
    rw [wrap_u64 (by omega) (by omega)]; omega
  refine Calls.mono (math_bits_RotateLeft32_calls _ _ _ (fun e w' => e = .returned (uv (rotr x n)) ∧ w' = w) ?_) ?_
  · unfold vc_math_bits_RotateLeft32
    simp only [hr, hw, Int.toNat_natCast, b_shl, b_shr, b_or]
    refine ⟨by omega, by omega, ?_, trivial⟩
    rw [BitVec.or_comm]
    rfl
  · rintro _ w' ⟨rfl, rfl⟩
    exact .inl ⟨_, rfl, rfl, rfl⟩
theorem word_spec (b : List UInt8) (h : 4 ≤ b.length) : Calls Try.prog fn_digest_word #[.string (S b)] w (fun e w' => e = .returned (uv (wordAt b 0)) ∧ w' = w.drew) := by
  refine digest_word_calls _ _ _ ?_
  match b, h with
  | b0 :: b1 :: b2 :: b3 :: r, _ =>
    refine ⟨by decide, b0, rfl, by decide, by decide, b1, rfl, by decide, by decide, b2, rfl, by decide, by decide, b3, rfl, ?_, rfl⟩
    simp only [b_byte, b_shl, b_or]
    rfl
theorem wordAt_drop (b : List UInt8) (i : Nat) : wordAt (b.drop (4 * i)) 0 = wordAt b i := by
  simp [wordAt, List.getD_eq_getElem?_getD, List.getElem?_drop]

theorem grow_length (b : List UInt8) : ∀ (n : Nat) (l : List B), (grow b n l).length = l.length + n
  | 0, l => rfl
  | n + 1, l => by rw [grow, grow_length b n]; simp; omega
theorem sched_length (b : List UInt8) : (sched b).length = 64 := by simp [sched, grow_length]

/-- Cells of words, as far as they have been made. -/
def wcells (l : List B) (n : Nat) : List Value := uvs (l ++ List.replicate (n - l.length) 0#32)
theorem wcells_length {l : List B} {n : Nat} (h : l.length ≤ n) : (wcells l n).length = n := by simp [wcells, uvs]; omega
theorem wcells_get {l : List B} {n k : Nat} (h : k < l.length) : (wcells l n)[k]? = some (.int .u32 ((l.getD k 0).toNat : Int)) := by
  have e : (l ++ List.replicate (n - l.length) 0#32)[k]? = some l[k] := by rw [List.getElem?_append_left h]; simp [h]
  simp only [wcells, uvs, List.getElem?_map, e, Option.map_some, uv, List.getD_eq_getElem?_getD, List.getElem?_eq_getElem h, Option.getD_some]
theorem wcells_set {l : List B} {n : Nat} (h : l.length < n) (x : B) : (wcells l n).set l.length (.int .u32 (x.toNat : Int)) = wcells (l ++ [x]) n := by
  have e : n - l.length = (n - (l ++ [x]).length) + 1 := by simp; omega
  unfold wcells
  rw [e, List.replicate_succ]
  simp [uvs, uv]
theorem wcells_full {l : List B} {n : Nat} (h : l.length = n) : wcells l n = uvs l := by simp [wcells, h]
theorem wcells_nil : wcells [] 64 = List.replicate 64 (.int .u32 0) := by simp [wcells, uvs, uv]
theorem uvs_one (l : List B) : ∀ v ∈ uvs l, v.oneCell' = true := by
  intro v hv
  simp only [uvs, List.mem_map] at hv
  obtain ⟨x, _, rfl⟩ := hv
  rfl
theorem uvs_length (l : List B) : (uvs l).length = l.length := by simp [uvs]
theorem uvs_get {l : List B} {k : Nat} (h : k < l.length) : (uvs l)[k]? = some (.int .u32 ((l.getD k 0).toNat : Int)) := by
  simp [uvs, uv, h, List.getD_eq_getElem?_getD]

theorem words_spec (b : List UInt8) (hb : b.length = 64) : Calls Try.prog fn_digest_words #[.string (S b)] w (fun e w' => e = .returned (.agg ⟨uvs (sched b)⟩) ∧ Still w w') := by
  refine digest_words_calls _ _ _ ?_
  refine ⟨fun x w1 => ∃ l : List B, x = (l.length : Int) ∧ l.length ≤ 64 ∧ grow b (64 - l.length) l = sched b ∧ Row w1 w.heap.size 38 ⟨wcells l 64⟩ ∧ Still w w1, fun x _ => (64 - x).toNat, ?_, ?_⟩
  · refine ⟨[], rfl, by simp, rfl, ?_, (Mod.refl _ _).alloc _⟩
    rw [wcells_nil]
    exact Row.new _ _ _
  · rintro _ _ w1 ⟨l, rfl, hl, hg, hr, hm⟩
    have w1e : IntKind.i64.wrap ((l.length : Int) + 1) = ((l.length + 1 : Nat) : Int) := by rw [wrap_i64 (by omega) (by omega)]; omega
    refine bsel_of (fun hx => ?_) (fun hx => ?_)
    · have hx := of_decide_eq_true hx
      have hx' : l.length < 64 := by omega
      have hgs : grow b (64 - (l.length + 1)) (l ++ [wnext b l]) = sched b := by
        rw [← hg, show 64 - l.length = (64 - (l.length + 1)) + 1 by omega]
        rfl
      refine bsel_of (fun h16 => ?_) (fun h16 => ?_)
      · have h16 := of_decide_eq_true h16
        have w4 : IntKind.i64.wrap (4 * (l.length : Int)) = ((4 * l.length : Nat) : Int) := by rw [wrap_i64 (by omega) (by omega)]; omega
        rw [w4, Int.toNat_natCast]
        refine ⟨by omega, by omega, (word_spec _ (by simp; omega)).mono ?_⟩
        rintro _ w2 ⟨rfl, rfl⟩
        rw [wordAt_drop]
        refine .inl ⟨_, rfl, by omega, by omega, ?_⟩
        rw [w1e, Int.toNat_natCast]
        refine ⟨hr.drew.wrAt (by rw [wcells_length (by omega)]; omega), ⟨l ++ [wordAt b l.length], by simp, by simp; omega, ?_, ?_, hm.drew.setAt (.inr (Nat.le_refl _)) _ _⟩, by dsimp only; omega⟩
        · have : wnext b l = wordAt b l.length := by unfold wnext; rw [if_pos (by omega)]
          rw [this] at hgs
          simpa using hgs
        · rw [← wcells_set hx']
          exact hr.drew.setAt _ _
      · have h16 := of_decide_eq_false h16
        have e15 : IntKind.i64.wrap ((l.length : Int) - 15) = ((l.length - 15 : Nat) : Int) := by rw [wrap_i64 (by omega) (by omega)]; omega
        have e2 : IntKind.i64.wrap ((l.length : Int) - 2) = ((l.length - 2 : Nat) : Int) := by rw [wrap_i64 (by omega) (by omega)]; omega
        have e16 : IntKind.i64.wrap ((l.length : Int) - 16) = ((l.length - 16 : Nat) : Int) := by rw [wrap_i64 (by omega) (by omega)]; omega
        have e7 : IntKind.i64.wrap ((l.length : Int) - 7) = ((l.length - 7 : Nat) : Int) := by rw [wrap_i64 (by omega) (by omega)]; omega
        simp only [e15, e2, e16, e7, w1e, Int.toNat_natCast]
        refine ⟨by omega, by omega, _, hr.at (wcells_get (by omega)), by omega, by omega, _, hr.at (wcells_get (by omega)),
          fun wq => Row wq w.heap.size 38 ⟨wcells l 64⟩ ∧ Still w wq, ⟨hr.drew.drew, hm.drew.drew⟩, by omega, by omega, _, fun wq hq => hq.1.at (wcells_get (by omega)), by omega, by omega, _, fun wq hq => hq.1.at (wcells_get (by omega)), by decide, by decide, ?_⟩
        refine (turned_spec _ 7 (by decide) (by decide)).mono ?_
        rintro _ _ ⟨rfl, rfl⟩
        refine .inl ⟨_, rfl, ⟨hr.drew.drew, hm.drew.drew⟩, (turned_spec _ 18 (by decide) (by decide)).mono ?_⟩
        rintro _ _ ⟨rfl, rfl⟩
        refine .inl ⟨_, rfl, ⟨hr.drew.drew, hm.drew.drew⟩, (turned_spec _ 17 (by decide) (by decide)).mono ?_⟩
        rintro _ _ ⟨rfl, rfl⟩
        refine .inl ⟨_, rfl, ⟨hr.drew.drew, hm.drew.drew⟩, (turned_spec _ 19 (by decide) (by decide)).mono ?_⟩
        rintro _ _ ⟨rfl, rfl⟩
        refine .inl ⟨_, rfl, ?_⟩
        simp only [b_add, b_xor, b_shr]
        refine ⟨⟨hr.drew.drew, hm.drew.drew⟩, by omega, by omega, hr.drew.drew.wrAt (by rw [wcells_length (by omega)]; omega), ⟨l ++ [wnext b l], by simp, by simp; omega, by simpa using hgs, ?_, hm.drew.drew.setAt (.inr (Nat.le_refl _)) _ _⟩, by omega⟩
        rw [← wcells_set hx']
        have hn : wnext b l = l.getD (l.length - 16) 0 + l.getD (l.length - 7) 0 + sig0 (l.getD (l.length - 15) 0) + sig1 (l.getD (l.length - 2) 0) := by
          unfold wnext
          rw [if_neg (by omega)]
          ac_rfl
        rw [hn]
        exact hr.drew.drew.setAt _ _
    · have hx := of_decide_eq_false hx
      have hx : l.length = 64 := by omega
      rw [hx, Nat.sub_self, grow] at hg
      rw [wcells_full hx] at hr
      rw [← hg]
      clear hg
      have hs : (uvs l).length = 64 := by rw [uvs_length, hx]
      have ho := uvs_one l
      generalize uvs l = W at hr hs ho ⊢
      refine ⟨W, hs, ?_, hs, ?_, w.heap.size, 0, W, 38, rfl, hr, by simp, W, hs, ?_, rfl, ?_⟩
      · intro j u hu
        rw [add_row, Nat.zero_add]
        exact hr.cellv (by simpa using hu)
      · exact ho
      · intro j u hu
        rw [add_row, Nat.zero_add]
        exact (hr.setRow _ (by simp)).cellv (by simpa using hu)
      · exact hm.setRow (.inr (Nat.le_refl _)) _
end Go.Proofs.Ytpomdpokbdaahaa
