/- Plain facts on numbers, bits and rows of bytes. Conditions: none; no program is named. -/
import Derived.Test.YtckcdbkggaoomaaDoorVc3
import Derived.Test.YtckcdbkggaoomaaDoorHeap
namespace Go.Proofs.YtckcdbkggaoomaaDoor
open Go.RowKit Vc

theorem wrap_i64 {n : Int} (h0 : -9223372036854775808 ≤ n) (h1 : n < 9223372036854775808) : IntKind.i64.wrap n = n := by
  simp only [IntKind.wrap, IntKind.signed, IntKind.bits]
  simp
  omega
theorem wrap_u64 {n : Int} (h0 : 0 ≤ n) (h1 : n < 18446744073709551616) : IntKind.u64.wrap n = n := by
  simp only [IntKind.wrap, IntKind.signed, IntKind.bits]
  simp
  omega
def bit (m : Int) (i : Nat) : Bool := m.toNat.testBit i
theorem bit_zero (i : Nat) : bit 0 i = false := by simp [bit]
theorem bits_and_u64 {a b : Int} (ha0 : 0 ≤ a) (ha : a < 18446744073709551616) (hb0 : 0 ≤ b) (hb : b < 18446744073709551616) : bits .and .u64 a b = ((a.toNat &&& b.toNat : Nat) : Int) := by
  have h1 : (BitVec.ofInt IntKind.u64.bits a).toNat = a.toNat := by
    simp [BitVec.toNat_ofInt, IntKind.bits]; omega
  have h2 : (BitVec.ofInt IntKind.u64.bits b).toNat = b.toNat := by
    simp [BitVec.toNat_ofInt, IntKind.bits]; omega
  have h3 : a.toNat &&& b.toNat ≤ a.toNat := Nat.and_le_left
  simp only [bits, BitVec.toNat_and, h1, h2]
  exact wrap_u64 (by omega) (by omega)
theorem bits_and_i64 {a b : Int} (hb0 : 0 ≤ b) (hb : b < 9223372036854775808) : 0 ≤ bits .and .i64 a b ∧ bits .and .i64 a b ≤ b := by
  have h2 : (BitVec.ofInt IntKind.i64.bits b).toNat = b.toNat := by
    simp [BitVec.toNat_ofInt, IntKind.bits]; omega
  have h3 : (BitVec.ofInt IntKind.i64.bits a).toNat &&& b.toNat ≤ b.toNat := Nat.and_le_right
  simp only [bits, BitVec.toNat_and, h2]
  rw [wrap_i64 (by omega) (by omega)]
  omega
theorem pow_u64 {x : Nat} (h : x < 64) : IntKind.u64.wrap (1 * 2 ^ (min x IntKind.u64.bits)) = ((2 ^ x : Nat) : Int) ∧ 2 ^ x < 18446744073709551616 := by
  have hm : min x IntKind.u64.bits = x := by simp [IntKind.bits]; omega
  have h2 : 2 ^ x < 2 ^ 64 := Nat.pow_lt_pow_right (by decide) h
  rw [hm]
  refine ⟨?_, by omega⟩
  have : (1 * 2 ^ x : Int) = ((2 ^ x : Nat) : Int) := by push_cast; omega
  rw [this]
  exact wrap_u64 (Int.natCast_nonneg _) (Int.ofNat_lt.2 (by omega))
theorem bit_mask {m : Int} (h0 : 0 ≤ m) (h1 : m < 18446744073709551616) {x : Int} (hx0 : 0 ≤ x) (hx : x < 64) :
    decide (bits .and .u64 m (IntKind.u64.wrap (1 * 2 ^ (min x.toNat IntKind.u64.bits))) = 0) = !bit m x.toNat := by
  obtain ⟨hp, hq⟩ := pow_u64 (x := x.toNat) (by omega)
  rw [hp, bits_and_u64 h0 h1 (Int.natCast_nonneg _) (Int.ofNat_lt.2 hq)]
  simp only [Int.toNat_natCast, bit]
  cases hb : m.toNat.testBit x.toNat with
  | false =>
    have : m.toNat &&& 2 ^ x.toNat = 0 := by
      apply Nat.eq_of_testBit_eq
      intro j
      rw [Nat.testBit_and, Nat.testBit_two_pow, Nat.zero_testBit]
      by_cases h : x.toNat = j
      · subst h; simp [hb]
      · simp [h]
    simp [this]
  | true =>
    have : m.toNat &&& 2 ^ x.toNat ≠ 0 := by
      intro h
      have h2 : (m.toNat &&& 2 ^ x.toNat).testBit x.toNat = true := by
        rw [Nat.testBit_and, Nat.testBit_two_pow]; simp [hb]
      rw [h] at h2
      simp at h2
    have h3 : ((m.toNat &&& 2 ^ x.toNat : Nat) : Int) ≠ 0 := by
      intro h; exact this (Int.ofNat_inj.1 h)
    rw [decide_eq_false h3]
    rfl
theorem bit_shift {m : Int} (h0 : 0 ≤ m) (h1 : m < 18446744073709551616) {x : Int} (hx0 : 0 ≤ x) (hx : x < 64) :
    bits .and .u64 (Int.fdiv m (2 ^ (min x.toNat IntKind.u64.bits))) 1 = ((bit m x.toNat).toNat : Int) := by
  have hm : min x.toNat IntKind.u64.bits = x.toNat := by simp [IntKind.bits]; omega
  obtain ⟨k, rfl⟩ := Int.eq_ofNat_of_zero_le h0
  have hd : Int.fdiv (k : Int) (2 ^ x.toNat) = ((k / 2 ^ x.toNat : Nat) : Int) := by
    rw [Int.fdiv_eq_ediv_of_nonneg _ (Int.pow_nonneg (by decide))]
    push_cast
    rfl
  have hle : k / 2 ^ x.toNat ≤ k := Nat.div_le_self _ _
  have h1' : k < 18446744073709551616 := Int.ofNat_lt.1 h1
  rw [hm, hd, bits_and_u64 (Int.natCast_nonneg _) (Int.lt_of_le_of_lt (Int.ofNat_le.2 hle) h1) (by decide) (by decide)]
  simp only [Int.toNat_natCast, bit, Nat.testBit, Nat.shiftRight_eq_div_pow]
  have e1 : (1 : Int).toNat = 1 := rfl
  rw [e1, Nat.and_comm 1]
  rw [Nat.and_one_is_mod]
  rcases Nat.mod_two_eq_zero_or_one (k / 2 ^ x.toNat) with h | h <;> simp [h]
theorem bit_shift1 {m : Int} (h0 : 0 ≤ m) (h1 : m < 18446744073709551616) {x : Int} (hx0 : 0 ≤ x) (hx : x < 64) :
    decide (bits .and .u64 (Int.fdiv m (2 ^ (min x.toNat IntKind.u64.bits))) 1 = 1) = bit m x.toNat := by
  rw [bit_shift h0 h1 hx0 hx]; cases bit m x.toNat <;> simp
theorem bit_shift0 {m : Int} (h0 : 0 ≤ m) (h1 : m < 18446744073709551616) {x : Int} (hx0 : 0 ≤ x) (hx : x < 64) :
    decide (bits .and .u64 (Int.fdiv m (2 ^ (min x.toNat IntKind.u64.bits))) 1 = 0) = !bit m x.toNat := by
  rw [bit_shift h0 h1 hx0 hx]; cases bit m x.toNat <;> simp

theorem add_row (g o i : Nat) : (Addr.mk g o none).add i = ⟨g, o + i, none⟩ := by
  unfold Addr.add
  split
  · next h => subst h; rfl
  · rfl
theorem Row.wr {w : World} {g : Nat} {t : TypeId} {cs : Array Value} (h : Row w g t cs) (i : Nat) (hi : i < cs.size) : Wr w ⟨g, i, none⟩ :=
  ⟨by rw [h.cell]; simp [hi], h.frozen hi⟩

theorem Row.setl {w : World} {g : Nat} {t : TypeId} {l : List Value} (h : Row w g t ⟨l⟩) (i : Nat) (u : Value) : Row (w.setCell ⟨g, i, none⟩ u) g t ⟨l.set i u⟩ := by
  have := h.set i u
  have e : (Array.mk l).setIfInBounds i u = ⟨l.set i u⟩ := by
    apply Array.ext'
    simp
  rwa [e] at this
theorem Row.cell_l {w : World} {g : Nat} {t : TypeId} {l : List Value} (h : Row w g t ⟨l⟩) {i : Nat} {v : Value} (hv : l[i]? = some v) : w.cell? ⟨g, i, none⟩ = some v := h.cellv (by simpa using hv)

/-! ### Rows of bytes, told by a function -/
def cellsF (F : Nat → UInt8) (N : Nat) : List Value := (List.range N).map fun i => .int .u8 (F i).toNat
def rowF (F : Nat → UInt8) (o N : Nat) : List UInt8 := (List.range N).map fun j => F (o + j)
@[simp] theorem cellsF_length (F : Nat → UInt8) (N : Nat) : (cellsF F N).length = N := by simp [cellsF]
@[simp] theorem rowF_length (F : Nat → UInt8) (o N : Nat) : (rowF F o N).length = N := by simp [rowF]
theorem cellsF_get {F : Nat → UInt8} {N i : Nat} (h : i < N) : (cellsF F N)[i]? = some (.int .u8 (F i).toNat) := by simp [cellsF, h]
theorem cellsF_one (F : Nat → UInt8) (N : Nat) : ∀ v ∈ cellsF F N, v.oneCell' = true := by
  intro v hv
  simp only [cellsF, List.mem_map] at hv
  obtain ⟨i, _, rfl⟩ := hv
  rfl
theorem rowF_get {F : Nat → UInt8} {o N i : Nat} (h : i < N) : (rowF F o N)[i]? = some (F (o + i)) := by simp [rowF, h]
theorem rowF_congr {F G : Nat → UInt8} {o N : Nat} (h : ∀ i, i < N → F (o + i) = G (o + i)) : rowF F o N = rowF G o N := by
  apply List.map_congr_left
  intro i hi
  exact h i (List.mem_range.1 hi)
theorem cellsF_congr {F G : Nat → UInt8} {N : Nat} (h : ∀ i, i < N → F i = G i) : cellsF F N = cellsF G N := by
  apply List.map_congr_left
  intro i hi
  rw [h i (List.mem_range.1 hi)]
theorem cellsF_set {F : Nat → UInt8} {N i : Nat} (b : UInt8) : (Array.mk (cellsF F N)).setIfInBounds i (.int .u8 b.toNat) = ⟨cellsF (fun j => if j = i then b else F j) N⟩ := by
  apply Array.ext'
  apply List.ext_getElem?
  intro j
  simp only [Array.toList_setIfInBounds, List.getElem?_set, cellsF, List.getElem?_map, List.length_map, List.length_range]
  by_cases hj : j < N
  · by_cases h : i = j
    · subst h; simp [hj]
    · have : ¬ j = i := fun e => h e.symm
      simp [h, hj, this]
  · have : (List.range N)[j]? = none := List.getElem?_eq_none (by simpa using hj)
    rw [this]
    by_cases h : i = j
    · subst h; simp [hj]
    · simp [h]
theorem cellsF_splice {F G : Nat → UInt8} {N o M : Nat} (h : o + M ≤ N) :
    (cellsF F N).take o ++ (cellsF G M ++ (cellsF F N).drop (o + M)) = cellsF (fun j => if o ≤ j ∧ j < o + M then G (j - o) else F j) N := by
  apply List.ext_getElem?
  intro j
  rcases Nat.lt_or_ge j o with h1 | h1
  · rw [List.getElem?_append_left (by simp; omega), List.getElem?_take_of_lt h1, cellsF_get (by omega), cellsF_get (by omega)]
    simp [Nat.not_le.2 h1]
  · rw [List.getElem?_append_right (by simp; omega)]
    have hl : ((cellsF F N).take o).length = o := by simp; omega
    rw [hl]
    rcases Nat.lt_or_ge j (o + M) with h2 | h2
    · rw [List.getElem?_append_left (by simp; omega), cellsF_get (by omega), cellsF_get (by omega)]
      simp [h1, h2]
    · rw [List.getElem?_append_right (by simp; omega), cellsF_length, List.getElem?_drop]
      have he : o + M + (j - o - M) = j := by omega
      rw [he]
      rcases Nat.lt_or_ge j N with h3 | h3
      · rw [cellsF_get h3, cellsF_get h3]
        simp [Nat.not_lt.2 h2]
      · rw [List.getElem?_eq_none (by simpa using h3), List.getElem?_eq_none (by simpa using h3)]
theorem cellsF_replicate (N : Nat) : List.replicate N (Value.int .u8 0) = cellsF (fun _ => 0) N := by
  apply List.ext_getElem?
  intro j
  rcases Nat.lt_or_ge j N with h | h
  · rw [cellsF_get h]; simp [h]
  · rw [List.getElem?_eq_none (by simpa using h), List.getElem?_eq_none (by simpa using h)]
theorem cellsF_map (s : List UInt8) : s.map (fun b => Value.int .u8 b.toNat) = cellsF (fun j => s.getD j 0) s.length := by
  apply List.ext_getElem?
  intro j
  rcases Nat.lt_or_ge j s.length with h | h
  · rw [cellsF_get h]; simp [h]
  · rw [List.getElem?_eq_none (by simpa using h), List.getElem?_eq_none (by simpa using h)]
theorem rowF_bytes {w : World} {g : Nat} {t : TypeId} {F : Nat → UInt8} {N : Nat} (h : Row w g t ⟨cellsF F N⟩) {o M : Nat} (hM : o + M ≤ N) :
    BytesAt (fun a v => w.cell? a = some v) (some ⟨g, o, none⟩) M (rowF F o M) := by
  refine ⟨by simp, fun _ => ⟨_, rfl, fun j b hb => ?_⟩⟩
  have hj : j < M := by
    have := (List.getElem?_eq_some_iff.1 hb).1
    simpa using this
  rw [rowF_get hj] at hb
  obtain rfl := Option.some.inj hb
  rw [add_row]
  exact h.cellv (by simpa using cellsF_get (by omega))
end Go.Proofs.YtckcdbkggaoomaaDoor
