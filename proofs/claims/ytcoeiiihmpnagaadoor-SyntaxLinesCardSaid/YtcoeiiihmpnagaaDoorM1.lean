/- Texts of one proof, one behind the other. Conditions: as each theorem names them. -/
import Derived.Test.YtcoeiiihmpnagaaDoorVc3
import Derived.Test.YtcoeiiihmpnagaaDoorHeap
namespace Go.Proofs.YtcoeiiihmpnagaaDoor
open Go.RowKit Vc

theorem wrap_i64 {n : Int} (h0 : -9223372036854775808 ≤ n) (h1 : n < 9223372036854775808) : IntKind.i64.wrap n = n := by
  simp only [IntKind.wrap, IntKind.signed, IntKind.bits]
  simp
  omega
theorem wrap_u64 {n : Int} (h0 : 0 ≤ n) (h1 : n < 18446744073709551616) : IntKind.u64.wrap n = n := by
  simp only [IntKind.wrap, IntKind.signed, IntKind.bits]
  simp
  omega
def bit (m : Int) (i : Nat) : Bool := m.toNat.testBit i
theorem bit_zero (i : Nat) : bit 0 i = false := by simp [bit]
theorem bits_and_u64 {a b : Int} (ha0 : 0 ≤ a) (ha : a < 18446744073709551616) (hb0 : 0 ≤ b) (hb : b < 18446744073709551616) : bits .and .u64 a b = ((a.toNat &&& b.toNat : Nat) : Int) := by
  have h1 : (BitVec.ofInt IntKind.u64.bits a).toNat = a.toNat := by
    simp [BitVec.toNat_ofInt, IntKind.bits]; omega
  have h2 : (BitVec.ofInt IntKind.u64.bits b).toNat = b.toNat := by
    simp [BitVec.toNat_ofInt, IntKind.bits]; omega
  have h3 : a.toNat &&& b.toNat ≤ a.toNat := Nat.and_le_left
  simp only [bits, BitVec.toNat_and, h1, h2]
  exact wrap_u64 (by omega) (by omega)
theorem bits_and_i64 {a b : Int} (hb0 : 0 ≤ b) (hb : b < 9223372036854775808) : 0 ≤ bits .and .i64 a b ∧ bits .and .i64 a b ≤ b := by
  have h2 : (BitVec.ofInt IntKind.i64.bits b).toNat = b.toNat := by
    simp [BitVec.toNat_ofInt, IntKind.bits]; omega
  have h3 : (BitVec.ofInt IntKind.i64.bits a).toNat &&& b.toNat ≤ b.toNat := Nat.and_le_right
  simp only [bits, BitVec.toNat_and, h2]
  rw [wrap_i64 (by omega) (by omega)]
  omega
theorem pow_u64 {x : Nat} (h : x < 64) : IntKind.u64.wrap (1 * 2 ^ (min x IntKind.u64.bits)) = ((2 ^ x : Nat) : Int) ∧ 2 ^ x < 18446744073709551616 := by
  have hm : min x IntKind.u64.bits = x := by simp [IntKind.bits]; omega
  have h2 : 2 ^ x < 2 ^ 64 := Nat.pow_lt_pow_right (by decide) h
  rw [hm]
  refine ⟨?_, by omega⟩
  have : (1 * 2 ^ x : Int) = ((2 ^ x : Nat) : Int) := by push_cast; omega
  rw [this]
  exact wrap_u64 (Int.natCast_nonneg _) (Int.ofNat_lt.2 (by omega))
theorem bit_mask {m : Int} (h0 : 0 ≤ m) (h1 : m < 18446744073709551616) {x : Int} (hx0 : 0 ≤ x) (hx : x < 64) :
    decide (bits .and .u64 m (IntKind.u64.wrap (1 * 2 ^ (min x.toNat IntKind.u64.bits))) = 0) = !bit m x.toNat := by
  obtain ⟨hp, hq⟩ := pow_u64 (x := x.toNat) (by omega)
  rw [hp, bits_and_u64 h0 h1 (Int.natCast_nonneg _) (Int.ofNat_lt.2 hq)]
  simp only [Int.toNat_natCast, bit]
  cases hb : m.toNat.testBit x.toNat with
  | false =>
    have : m.toNat &&& 2 ^ x.toNat = 0 := by
      apply Nat.eq_of_testBit_eq
      intro j
      rw [Nat.testBit_and, Nat.testBit_two_pow, Nat.zero_testBit]
      by_cases h : x.toNat = j
      · subst h; simp [hb]
      · simp [h]
    simp [this]
  | true =>
    have : m.toNat &&& 2 ^ x.toNat ≠ 0 := by
      intro h
      have h2 : (m.toNat &&& 2 ^ x.toNat).testBit x.toNat = true := by
        rw [Nat.testBit_and, Nat.testBit_two_pow]; simp [hb]
      rw [h] at h2
      simp at h2
    have h3 : ((m.toNat &&& 2 ^ x.toNat : Nat) : Int) ≠ 0 := by
      intro h; exact this (Int.ofNat_inj.1 h)
    rw [decide_eq_false h3]
    rfl
theorem bit_shift {m : Int} (h0 : 0 ≤ m) (h1 : m < 18446744073709551616) {x : Int} (hx0 : 0 ≤ x) (hx : x < 64) :
    bits .and .u64 (Int.fdiv m (2 ^ (min x.toNat IntKind.u64.bits))) 1 = ((bit m x.toNat).toNat : Int) := by
  have hm : min x.toNat IntKind.u64.bits = x.toNat := by simp [IntKind.bits]; omega
  obtain ⟨k, rfl⟩ := Int.eq_ofNat_of_zero_le h0
  have hd : Int.fdiv (k : Int) (2 ^ x.toNat) = ((k / 2 ^ x.toNat : Nat) : Int) := by
    rw [Int.fdiv_eq_ediv_of_nonneg _ (Int.pow_nonneg (by decide))]
    push_cast
    rfl
  have hle : k / 2 ^ x.toNat ≤ k := Nat.div_le_self _ _
  have h1' : k < 18446744073709551616 := Int.ofNat_lt.1 h1
  rw [hm, hd, bits_and_u64 (Int.natCast_nonneg _) (Int.lt_of_le_of_lt (Int.ofNat_le.2 hle) h1) (by decide) (by decide)]
  simp only [Int.toNat_natCast, bit, Nat.testBit, Nat.shiftRight_eq_div_pow]
  have e1 : (1 : Int).toNat = 1 := rfl
  rw [e1, Nat.and_comm 1]
  rw [Nat.and_one_is_mod]
  rcases Nat.mod_two_eq_zero_or_one (k / 2 ^ x.toNat) with h | h <;> simp [h]
theorem bit_shift1 {m : Int} (h0 : 0 ≤ m) (h1 : m < 18446744073709551616) {x : Int} (hx0 : 0 ≤ x) (hx : x < 64) :
    decide (bits .and .u64 (Int.fdiv m (2 ^ (min x.toNat IntKind.u64.bits))) 1 = 1) = bit m x.toNat := by
  rw [bit_shift h0 h1 hx0 hx]; cases bit m x.toNat <;> simp
theorem bit_shift0 {m : Int} (h0 : 0 ≤ m) (h1 : m < 18446744073709551616) {x : Int} (hx0 : 0 ≤ x) (hx : x < 64) :
    decide (bits .and .u64 (Int.fdiv m (2 ^ (min x.toNat IntKind.u64.bits))) 1 = 0) = !bit m x.toNat := by
  rw [bit_shift h0 h1 hx0 hx]; cases bit m x.toNat <;> simp

theorem add_row (g o i : Nat) : (Addr.mk g o none).add i = ⟨g, o + i, none⟩ := by
  unfold Addr.add
  split
  · next h => subst h; rfl
  · rfl
theorem Row.wr {w : World} {g : Nat} {t : TypeId} {cs : Array Value} (h : Row w g t cs) (i : Nat) (hi : i < cs.size) : Wr w ⟨g, i, none⟩ :=
  ⟨by rw [h.cell]; simp [hi], h.frozen hi⟩

theorem Row.setl {w : World} {g : Nat} {t : TypeId} {l : List Value} (h : Row w g t ⟨l⟩) (i : Nat) (u : Value) : Row (w.setCell ⟨g, i, none⟩ u) g t ⟨l.set i u⟩ := by
  have := h.set i u
  have e : (Array.mk l).setIfInBounds i u = ⟨l.set i u⟩ := by
    apply Array.ext'
    simp
  rwa [e] at this
theorem Row.cell_l {w : World} {g : Nat} {t : TypeId} {l : List Value} (h : Row w g t ⟨l⟩) {i : Nat} {v : Value} (hv : l[i]? = some v) : w.cell? ⟨g, i, none⟩ = some v := h.cellv (by simpa using hv)

/-! ### Rows of bytes, told by a function -/
def cellsF (F : Nat → UInt8) (N : Nat) : List Value := (List.range N).map fun i => .int .u8 (F i).toNat
def rowF (F : Nat → UInt8) (o N : Nat) : List UInt8 := (List.range N).map fun j => F (o + j)
@[simp] theorem cellsF_length (F : Nat → UInt8) (N : Nat) : (cellsF F N).length = N := by simp [cellsF]
@[simp] theorem rowF_length (F : Nat → UInt8) (o N : Nat) : (rowF F o N).length = N := by simp [rowF]
theorem cellsF_get {F : Nat → UInt8} {N i : Nat} (h : i < N) : (cellsF F N)[i]? = some (.int .u8 (F i).toNat) := by simp [cellsF, h]
theorem cellsF_one (F : Nat → UInt8) (N : Nat) : ∀ v ∈ cellsF F N, v.oneCell' = true := by
  intro v hv
  simp only [cellsF, List.mem_map] at hv
  obtain ⟨i, _, rfl⟩ := hv
  rfl
theorem rowF_get {F : Nat → UInt8} {o N i : Nat} (h : i < N) : (rowF F o N)[i]? = some (F (o + i)) := by simp [rowF, h]
theorem rowF_congr {F G : Nat → UInt8} {o N : Nat} (h : ∀ i, i < N → F (o + i) = G (o + i)) : rowF F o N = rowF G o N := by
  apply List.map_congr_left
  intro i hi
  exact h i (List.mem_range.1 hi)
theorem cellsF_congr {F G : Nat → UInt8} {N : Nat} (h : ∀ i, i < N → F i = G i) : cellsF F N = cellsF G N := by
  apply List.map_congr_left
  intro i hi
  rw [h i (List.mem_range.1 hi)]
theorem cellsF_set {F : Nat → UInt8} {N i : Nat} (b : UInt8) : (Array.mk (cellsF F N)).setIfInBounds i (.int .u8 b.toNat) = ⟨cellsF (fun j => if j = i then b else F j) N⟩ := by
  apply Array.ext'
  apply List.ext_getElem?
  intro j
  simp only [Array.toList_setIfInBounds, List.getElem?_set, cellsF, List.getElem?_map, List.length_map, List.length_range]
  by_cases hj : j < N
  · by_cases h : i = j
    · subst h; simp [hj]
    · have : ¬ j = i := fun e => h e.symm
      simp [h, hj, this]
  · have : (List.range N)[j]? = none := List.getElem?_eq_none (by simpa using hj)
    rw [this]
    by_cases h : i = j
    · subst h; simp [hj]
    · simp [h]
theorem cellsF_splice {F G : Nat → UInt8} {N o M : Nat} (h : o + M ≤ N) :
    (cellsF F N).take o ++ (cellsF G M ++ (cellsF F N).drop (o + M)) = cellsF (fun j => if o ≤ j ∧ j < o + M then G (j - o) else F j) N := by
  apply List.ext_getElem?
  intro j
  rcases Nat.lt_or_ge j o with h1 | h1
  · rw [List.getElem?_append_left (by simp; omega), List.getElem?_take_of_lt h1, cellsF_get (by omega), cellsF_get (by omega)]
    simp [Nat.not_le.2 h1]
  · rw [List.getElem?_append_right (by simp; omega)]
    have hl : ((cellsF F N).take o).length = o := by simp; omega
    rw [hl]
    rcases Nat.lt_or_ge j (o + M) with h2 | h2
    · rw [List.getElem?_append_left (by simp; omega), cellsF_get (by omega), cellsF_get (by omega)]
      simp [h1, h2]
    · rw [List.getElem?_append_right (by simp; omega), cellsF_length, List.getElem?_drop]
      have he : o + M + (j - o - M) = j := by omega
      rw [he]
      rcases Nat.lt_or_ge j N with h3 | h3
      · rw [cellsF_get h3, cellsF_get h3]
        simp [Nat.not_lt.2 h2]
      · rw [List.getElem?_eq_none (by simpa using h3), List.getElem?_eq_none (by simpa using h3)]
theorem cellsF_replicate (N : Nat) : List.replicate N (Value.int .u8 0) = cellsF (fun _ => 0) N := by
  apply List.ext_getElem?
  intro j
  rcases Nat.lt_or_ge j N with h | h
  · rw [cellsF_get h]; simp [h]
  · rw [List.getElem?_eq_none (by simpa using h), List.getElem?_eq_none (by simpa using h)]
theorem cellsF_map (s : List UInt8) : s.map (fun b => Value.int .u8 b.toNat) = cellsF (fun j => s.getD j 0) s.length := by
  apply List.ext_getElem?
  intro j
  rcases Nat.lt_or_ge j s.length with h | h
  · rw [cellsF_get h]; simp [h]
  · rw [List.getElem?_eq_none (by simpa using h), List.getElem?_eq_none (by simpa using h)]
theorem rowF_bytes {w : World} {g : Nat} {t : TypeId} {F : Nat → UInt8} {N : Nat} (h : Row w g t ⟨cellsF F N⟩) {o M : Nat} (hM : o + M ≤ N) :
    BytesAt (fun a v => w.cell? a = some v) (some ⟨g, o, none⟩) M (rowF F o M) := by
  refine ⟨by simp, fun _ => ⟨_, rfl, fun j b hb => ?_⟩⟩
  have hj : j < M := by
    have := (List.getElem?_eq_some_iff.1 hb).1
    simpa using this
  rw [rowF_get hj] at hb
  obtain rfl := Option.some.inj hb
  rw [add_row]
  exact h.cellv (by simpa using cellsF_get (by omega))
end Go.Proofs.YtcoeiiihmpnagaaDoor
namespace Go.Proofs.YtcoeiiihmpnagaaDoor
open Go.RowKit Vc

/-- Cells of bytes. -/
def bc (l : List UInt8) : List Value := l.map fun b => .int .u8 b.toNat
@[simp] theorem bc_length (l : List UInt8) : (bc l).length = l.length := by simp [bc]
theorem bc_set (l : List UInt8) (i : Nat) (b : UInt8) : (bc l).set i (.int .u8 (b.toNat : Int)) = bc (l.set i b) := by simp [bc, List.map_set]
theorem bc_append (l m : List UInt8) : bc (l ++ m) = bc l ++ bc m := by simp [bc]
theorem bc_get {l : List UInt8} {i : Nat} {b : UInt8} (h : l[i]? = some b) : (bc l)[i]? = some (.int .u8 (b.toNat : Int)) := by simp [bc, h]
theorem bc_one (l : List UInt8) : ∀ v ∈ bc l, v.oneCell' = true := by
  intro v hv
  simp only [bc, List.mem_map] at hv
  obtain ⟨x, _, rfl⟩ := hv
  rfl
theorem Row.bytes {w : World} {g : Nat} {t : TypeId} {l : List UInt8} (h : Row w g t ⟨bc l⟩) {n : Nat} (hn : l.length = n) : BytesAt (fun a v => w.cell? a = some v) (some ⟨g, 0, none⟩) n l := by
  refine ⟨hn, fun _ => ⟨_, rfl, fun j b hb => ?_⟩⟩
  rw [add_row, Nat.zero_add]
  exact h.cellv (by simpa using bc_get hb)
theorem Owns.ownAddr {w : World} {B : Nat} {e : TypeId} {size : Nat} {v : Value} {n : Nat} {xs : List Value} (h : Owns w B e size v n xs) (hn : 0 < n) : ∃ g cap, v = .slice (some ⟨g, 0, none⟩) n cap ∧ B ≤ g ∧ g < w.heap.size ∧ n ≤ cap ∧ ∀ j u, xs[j]? = some u → w.cell? ⟨g, j, none⟩ = some u := by
  obtain ⟨g, cap, cur, rfl, hb, hr, hc, _, _⟩ := h.row hn
  exact ⟨g, cap, rfl, hb, hr.lt, hc, h.cells rfl⟩
theorem Owns.bytes {w : World} {B : Nat} {e : TypeId} {p : Option Addr} {n c : Nat} {l : List UInt8} (h : Owns w B e 1 (.slice p n c) n (bc l)) : BytesAt (fun a v => w.cell? a = some v) p n l := by
  have hl := h.length
  rw [bc_length] at hl
  refine ⟨by omega, fun hn => ?_⟩
  obtain ⟨g, cap, he, _, _, _, hx⟩ := h.ownAddr hn
  injection he with e1 e2 e3
  subst e1
  refine ⟨_, rfl, fun j b hb => ?_⟩
  rw [add_row, Nat.zero_add]
  exact hx j _ (bc_get hb)
theorem one_one {x : Value} (h : x.oneCell' = true) : ∀ u ∈ [x], u.oneCell' = true := by simpa using h
theorem one_src (w : World) (t : TypeId) (x : Value) : 0 < 1 → ∃ a : Addr, (some (Addr.mk w.heap.size 0 none)) = some a ∧ ∀ (j : Nat) (u : Value), [x][j]? = some u → (w.alloc (.cells #[x] t)).cell? (a.add j) = some u := by
  refine fun _ => ⟨_, rfl, fun j u hu => ?_⟩
  have hj : j = 0 := by
    have := (List.getElem?_eq_some_iff.1 hu).1
    simpa using this
  subst hj
  obtain rfl := Option.some.inj hu
  exact (Row.new w t _).cellv rfl
section
variable {w w2 w7 : World} {B L L' : Nat} {e : TypeId} {v v' : Value} {xs ys : List Value} {size : Nat} {row : Option Nat}
theorem Owns.pushed {p p' : Option Addr} {n n' c c' : Nat} (ho : Owns w2 B e size (.slice p n c) L xs) (hB : B ≤ w2.heap.size) {o : Obj} (ho7 : Owns w7 0 e size (.slice p' n' c') L' ys)
    (hblk : Blk p p' n' c c' (w2.alloc o).heap.size) : Owns w7 B e size (.slice p' n' c') L' ys := by
  refine ho7.base fun k hk => ?_
  rcases hblk.own (n := n) with h | h
  · exact (ho.lt k (by rw [← h, hk])).1
  · rw [hk] at h
    obtain rfl := Option.some.inj h
    simp
    omega
theorem Mod.pushed {S : Nat → Prop} (hm : Mod S w w2) (ho : Owns w2 B e size v L xs) (hwB : w.heap.size ≤ B) {o : Obj} (hg : (w2.alloc o).grownBy w7 v.ownBlock) : Mod S w w7 :=
  (hm.alloc o).grown hg fun g hk => .inr (Nat.le_trans hwB (ho.lt g hk).1)
theorem Row.pushed {g : Nat} {t : TypeId} {cs : Array Value} (h : Row w2 g t cs) (ho : Owns w2 B e size v L xs) (hgB : g < B) {o : Obj} (hg : (w2.alloc o).grownBy w7 v.ownBlock) : Row w7 g t cs :=
  (h.alloc o).grown hg fun hk => by have := (ho.lt g hk.symm).1; omega
end
end Go.Proofs.YtcoeiiihmpnagaaDoor
namespace Go.Proofs.YtcoeiiihmpnagaaDoor
abbrev Txt := List UInt8
end Go.Proofs.YtcoeiiihmpnagaaDoor
