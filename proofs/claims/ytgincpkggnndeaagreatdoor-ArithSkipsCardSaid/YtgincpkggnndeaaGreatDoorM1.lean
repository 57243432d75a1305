/- Texts of one proof, one behind the other. Conditions: as each theorem names them. -/
import Derived.Test.YtgincpkggnndeaaGreatDoorVc3
import Derived.Test.YtgincpkggnndeaaGreatDoorHeap
namespace Go.Proofs.YtgincpkggnndeaaGreatDoor
open Go.RowKit Vc

theorem wrap_i64 {n : Int} (h0 : -9223372036854775808 ≤ n) (h1 : n < 9223372036854775808) : IntKind.i64.wrap n = n := by
  simp only [IntKind.wrap, IntKind.signed, IntKind.bits]
  simp
  omega
theorem wrap_u64 {n : Int} (h0 : 0 ≤ n) (h1 : n < 18446744073709551616) : IntKind.u64.wrap n = n := by
  simp only [IntKind.wrap, IntKind.signed, IntKind.bits]
  simp
  omega
def bit (m : Int) (i : Nat) : Bool := m.toNat.testBit i
theorem bit_zero (i : Nat) : bit 0 i = false := by simp [bit]
theorem bits_and_u64 {a b : Int} (ha0 : 0 ≤ a) (ha : a < 18446744073709551616) (hb0 : 0 ≤ b) (hb : b < 18446744073709551616) : bits .and .u64 a b = ((a.toNat &&& b.toNat : Nat) : Int) := by
  have h1 : (BitVec.ofInt IntKind.u64.bits a).toNat = a.toNat := by
    simp [BitVec.toNat_ofInt, IntKind.bits]; omega
  have h2 : (BitVec.ofInt IntKind.u64.bits b).toNat = b.toNat := by
    simp [BitVec.toNat_ofInt, IntKind.bits]; omega
  have h3 : a.toNat &&& b.toNat ≤ a.toNat := Nat.and_le_left
  simp only [bits, BitVec.toNat_and, h1, h2]
  exact wrap_u64 (by omega) (by omega)
theorem bits_and_i64 {a b : Int} (hb0 : 0 ≤ b) (hb : b < 9223372036854775808) : 0 ≤ bits .and .i64 a b ∧ bits .and .i64 a b ≤ b := by
  have h2 : (BitVec.ofInt IntKind.i64.bits b).toNat = b.toNat := by
    simp [BitVec.toNat_ofInt, IntKind.bits]; omega
  have h3 : (BitVec.ofInt IntKind.i64.bits a).toNat &&& b.toNat ≤ b.toNat := Nat.and_le_right
  simp only [bits, BitVec.toNat_and, h2]
  rw [wrap_i64 (by omega) (by omega)]
  omega
theorem pow_u64 {x : Nat} (h : x < 64) : IntKind.u64.wrap (1 * 2 ^ (min x IntKind.u64.bits)) = ((2 ^ x : Nat) : Int) ∧ 2 ^ x < 18446744073709551616 := by
  have hm : min x IntKind.u64.bits = x := by simp [IntKind.bits]; omega
  have h2 : 2 ^ x < 2 ^ 64 := Nat.pow_lt_pow_right (by decide) h
  rw [hm]
  refine ⟨?_, by omega⟩
  have : (1 * 2 ^ x : Int) = ((2 ^ x : Nat) : Int) := by push_cast; omega
  rw [this]
  exact wrap_u64 (Int.natCast_nonneg _) (Int.ofNat_lt.2 (by omega))
theorem bit_mask {m : Int} (h0 : 0 ≤ m) (h1 : m < 18446744073709551616) {x : Int} (hx0 : 0 ≤ x) (hx : x < 64) :
    decide (bits .and .u64 m (IntKind.u64.wrap (1 * 2 ^ (min x.toNat IntKind.u64.bits))) = 0) = !bit m x.toNat := by
  obtain ⟨hp, hq⟩ := pow_u64 (x := x.toNat) (by omega)
  rw [hp, bits_and_u64 h0 h1 (Int.natCast_nonneg _) (Int.ofNat_lt.2 hq)]
  simp only [Int.toNat_natCast, bit]
  cases hb : m.toNat.testBit x.toNat with
  | false =>
    have : m.toNat &&& 2 ^ x.toNat = 0 := by
      apply Nat.eq_of_testBit_eq
      intro j
      rw [Nat.testBit_and, Nat.testBit_two_pow, Nat.zero_testBit]
      by_cases h : x.toNat = j
      · subst h; simp [hb]
      · simp [h]
    simp [this]
  | true =>
    have : m.toNat &&& 2 ^ x.toNat ≠ 0 := by
      intro h
      have h2 : (m.toNat &&& 2 ^ x.toNat).testBit x.toNat = true := by
        rw [Nat.testBit_and, Nat.testBit_two_pow]; simp [hb]
      rw [h] at h2
      simp at h2
    have h3 : ((m.toNat &&& 2 ^ x.toNat : Nat) : Int) ≠ 0 := by
      intro h; exact this (Int.ofNat_inj.1 h)
    rw [decide_eq_false h3]
    rfl
theorem bit_shift {m : Int} (h0 : 0 ≤ m) (h1 : m < 18446744073709551616) {x : Int} (hx0 : 0 ≤ x) (hx : x < 64) :
    bits .and .u64 (Int.fdiv m (2 ^ (min x.toNat IntKind.u64.bits))) 1 = ((bit m x.toNat).toNat : Int) := by
  have hm : min x.toNat IntKind.u64.bits = x.toNat := by simp [IntKind.bits]; omega
  obtain ⟨k, rfl⟩ := Int.eq_ofNat_of_zero_le h0
  have hd : Int.fdiv (k : Int) (2 ^ x.toNat) = ((k / 2 ^ x.toNat : Nat) : Int) := by
    rw [Int.fdiv_eq_ediv_of_nonneg _ (Int.pow_nonneg (by decide))]
    push_cast
    rfl
  have hle : k / 2 ^ x.toNat ≤ k := Nat.div_le_self _ _
  have h1' : k < 18446744073709551616 := Int.ofNat_lt.1 h1
  rw [hm, hd, bits_and_u64 (Int.natCast_nonneg _) (Int.lt_of_le_of_lt (Int.ofNat_le.2 hle) h1) (by decide) (by decide)]
  simp only [Int.toNat_natCast, bit, Nat.testBit, Nat.shiftRight_eq_div_pow]
  have e1 : (1 : Int).toNat = 1 := rfl
  rw [e1, Nat.and_comm 1]
  rw [Nat.and_one_is_mod]
  rcases Nat.mod_two_eq_zero_or_one (k / 2 ^ x.toNat) with h | h <;> simp [h]
theorem bit_shift1 {m : Int} (h0 : 0 ≤ m) (h1 : m < 18446744073709551616) {x : Int} (hx0 : 0 ≤ x) (hx : x < 64) :
    decide (bits .and .u64 (Int.fdiv m (2 ^ (min x.toNat IntKind.u64.bits))) 1 = 1) = bit m x.toNat := by
  rw [bit_shift h0 h1 hx0 hx]; cases bit m x.toNat <;> simp
theorem bit_shift0 {m : Int} (h0 : 0 ≤ m) (h1 : m < 18446744073709551616) {x : Int} (hx0 : 0 ≤ x) (hx : x < 64) :
    decide (bits .and .u64 (Int.fdiv m (2 ^ (min x.toNat IntKind.u64.bits))) 1 = 0) = !bit m x.toNat := by
  rw [bit_shift h0 h1 hx0 hx]; cases bit m x.toNat <;> simp

theorem add_row (g o i : Nat) : (Addr.mk g o none).add i = ⟨g, o + i, none⟩ := by
  unfold Addr.add
  split
  · next h => subst h; rfl
  · rfl
theorem Row.wr {w : World} {g : Nat} {t : TypeId} {cs : Array Value} (h : Row w g t cs) (i : Nat) (hi : i < cs.size) : Wr w ⟨g, i, none⟩ :=
  ⟨by rw [h.cell]; simp [hi], h.frozen hi⟩

theorem Row.setl {w : World} {g : Nat} {t : TypeId} {l : List Value} (h : Row w g t ⟨l⟩) (i : Nat) (u : Value) : Row (w.setCell ⟨g, i, none⟩ u) g t ⟨l.set i u⟩ := by
  have := h.set i u
  have e : (Array.mk l).setIfInBounds i u = ⟨l.set i u⟩ := by
    apply Array.ext'
    simp
  rwa [e] at this
theorem Row.cell_l {w : World} {g : Nat} {t : TypeId} {l : List Value} (h : Row w g t ⟨l⟩) {i : Nat} {v : Value} (hv : l[i]? = some v) : w.cell? ⟨g, i, none⟩ = some v := h.cellv (by simpa using hv)

/-! ### Rows of bytes, told by a function -/
def cellsF (F : Nat → UInt8) (N : Nat) : List Value := (List.range N).map fun i => .int .u8 (F i).toNat
def rowF (F : Nat → UInt8) (o N : Nat) : List UInt8 := (List.range N).map fun j => F (o + j)
@[simp] theorem cellsF_length (F : Nat → UInt8) (N : Nat) : (cellsF F N).length = N := by simp [cellsF]
@[simp] theorem rowF_length (F : Nat → UInt8) (o N : Nat) : (rowF F o N).length = N := by simp [rowF]
theorem cellsF_get {F : Nat → UInt8} {N i : Nat} (h : i < N) : (cellsF F N)[i]? = some (.int .u8 (F i).toNat) := by simp [cellsF, h]
theorem cellsF_one (F : Nat → UInt8) (N : Nat) : ∀ v ∈ cellsF F N, v.oneCell' = true := by
  intro v hv
  simp only [cellsF, List.mem_map] at hv
  obtain ⟨i, _, rfl⟩ := hv
  rfl
theorem rowF_get {F : Nat → UInt8} {o N i : Nat} (h : i < N) : (rowF F o N)[i]? = some (F (o + i)) := by simp [rowF, h]
theorem rowF_congr {F G : Nat → UInt8} {o N : Nat} (h : ∀ i, i < N → F (o + i) = G (o + i)) : rowF F o N = rowF G o N := by
  apply List.map_congr_left
  intro i hi
  exact h i (List.mem_range.1 hi)
theorem cellsF_congr {F G : Nat → UInt8} {N : Nat} (h : ∀ i, i < N → F i = G i) : cellsF F N = cellsF G N := by
  apply List.map_congr_left
  intro i hi
  rw [h i (List.mem_range.1 hi)]
theorem cellsF_set {F : Nat → UInt8} {N i : Nat} (b : UInt8) : (Array.mk (cellsF F N)).setIfInBounds i (.int .u8 b.toNat) = ⟨cellsF (fun j => if j = i then b else F j) N⟩ := by
  apply Array.ext'
  apply List.ext_getElem?
  intro j
  simp only [Array.toList_setIfInBounds, List.getElem?_set, cellsF, List.getElem?_map, List.length_map, List.length_range]
  by_cases hj : j < N
  · by_cases h : i = j
    · subst h; simp [hj]
    · have : ¬ j = i := fun e => h e.symm
      simp [h, hj, this]
  · have : (List.range N)[j]? = none := List.getElem?_eq_none (by simpa using hj)
    rw [this]
    by_cases h : i = j
    · subst h; simp [hj]
    · simp [h]
theorem cellsF_splice {F G : Nat → UInt8} {N o M : Nat} (h : o + M ≤ N) :
    (cellsF F N).take o ++ (cellsF G M ++ (cellsF F N).drop (o + M)) = cellsF (fun j => if o ≤ j ∧ j < o + M then G (j - o) else F j) N := by
  apply List.ext_getElem?
  intro j
  rcases Nat.lt_or_ge j o with h1 | h1
  · rw [List.getElem?_append_left (by simp; omega), List.getElem?_take_of_lt h1, cellsF_get (by omega), cellsF_get (by omega)]
    simp [Nat.not_le.2 h1]
  · rw [List.getElem?_append_right (by simp; omega)]
    have hl : ((cellsF F N).take o).length = o := by simp; omega
    rw [hl]
    rcases Nat.lt_or_ge j (o + M) with h2 | h2
    · rw [List.getElem?_append_left (by simp; omega), cellsF_get (by omega), cellsF_get (by omega)]
      simp [h1, h2]
    · rw [List.getElem?_append_right (by simp; omega), cellsF_length, List.getElem?_drop]
      have he : o + M + (j - o - M) = j := by omega
      rw [he]
      rcases Nat.lt_or_ge j N with h3 | h3
      · rw [cellsF_get h3, cellsF_get h3]
        simp [Nat.not_lt.2 h2]
      · rw [List.getElem?_eq_none (by simpa using h3), List.getElem?_eq_none (by simpa using h3)]
theorem cellsF_replicate (N : Nat) : List.replicate N (Value.int .u8 0) = cellsF (fun _ => 0) N := by
  apply List.ext_getElem?
  intro j
  rcases Nat.lt_or_ge j N with h | h
  · rw [cellsF_get h]; simp [h]
  · rw [List.getElem?_eq_none (by simpa using h), List.getElem?_eq_none (by simpa using h)]
theorem cellsF_map (s : List UInt8) : s.map (fun b => Value.int .u8 b.toNat) = cellsF (fun j => s.getD j 0) s.length := by
  apply List.ext_getElem?
  intro j
  rcases Nat.lt_or_ge j s.length with h | h
  · rw [cellsF_get h]; simp [h]
  · rw [List.getElem?_eq_none (by simpa using h), List.getElem?_eq_none (by simpa using h)]
theorem rowF_bytes {w : World} {g : Nat} {t : TypeId} {F : Nat → UInt8} {N : Nat} (h : Row w g t ⟨cellsF F N⟩) {o M : Nat} (hM : o + M ≤ N) :
    BytesAt (fun a v => w.cell? a = some v) (some ⟨g, o, none⟩) M (rowF F o M) := by
  refine ⟨by simp, fun _ => ⟨_, rfl, fun j b hb => ?_⟩⟩
  have hj : j < M := by
    have := (List.getElem?_eq_some_iff.1 hb).1
    simpa using this
  rw [rowF_get hj] at hb
  obtain rfl := Option.some.inj hb
  rw [add_row]
  exact h.cellv (by simpa using cellsF_get (by omega))
end Go.Proofs.YtgincpkggnndeaaGreatDoor
namespace Go.Proofs.YtgincpkggnndeaaGreatDoor
open Go.RowKit Vc

/-- Cells of bytes. -/
def bc (l : List UInt8) : List Value := l.map fun b => .int .u8 b.toNat
@[simp] theorem bc_length (l : List UInt8) : (bc l).length = l.length := by simp [bc]
theorem bc_set (l : List UInt8) (i : Nat) (b : UInt8) : (bc l).set i (.int .u8 (b.toNat : Int)) = bc (l.set i b) := by simp [bc, List.map_set]
theorem bc_append (l m : List UInt8) : bc (l ++ m) = bc l ++ bc m := by simp [bc]
theorem bc_get {l : List UInt8} {i : Nat} {b : UInt8} (h : l[i]? = some b) : (bc l)[i]? = some (.int .u8 (b.toNat : Int)) := by simp [bc, h]
theorem bc_one (l : List UInt8) : ∀ v ∈ bc l, v.oneCell' = true := by
  intro v hv
  simp only [bc, List.mem_map] at hv
  obtain ⟨x, _, rfl⟩ := hv
  rfl
theorem Row.bytes {w : World} {g : Nat} {t : TypeId} {l : List UInt8} (h : Row w g t ⟨bc l⟩) {n : Nat} (hn : l.length = n) : BytesAt (fun a v => w.cell? a = some v) (some ⟨g, 0, none⟩) n l := by
  refine ⟨hn, fun _ => ⟨_, rfl, fun j b hb => ?_⟩⟩
  rw [add_row, Nat.zero_add]
  exact h.cellv (by simpa using bc_get hb)
theorem Owns.ownAddr {w : World} {B : Nat} {e : TypeId} {size : Nat} {v : Value} {n : Nat} {xs : List Value} (h : Owns w B e size v n xs) (hn : 0 < n) : ∃ g cap, v = .slice (some ⟨g, 0, none⟩) n cap ∧ B ≤ g ∧ g < w.heap.size ∧ n ≤ cap ∧ ∀ j u, xs[j]? = some u → w.cell? ⟨g, j, none⟩ = some u := by
  obtain ⟨g, cap, cur, rfl, hb, hr, hc, _, _⟩ := h.row hn
  exact ⟨g, cap, rfl, hb, hr.lt, hc, h.cells rfl⟩
theorem Owns.bytes {w : World} {B : Nat} {e : TypeId} {p : Option Addr} {n c : Nat} {l : List UInt8} (h : Owns w B e 1 (.slice p n c) n (bc l)) : BytesAt (fun a v => w.cell? a = some v) p n l := by
  have hl := h.length
  rw [bc_length] at hl
  refine ⟨by omega, fun hn => ?_⟩
  obtain ⟨g, cap, he, _, _, _, hx⟩ := h.ownAddr hn
  injection he with e1 e2 e3
  subst e1
  refine ⟨_, rfl, fun j b hb => ?_⟩
  rw [add_row, Nat.zero_add]
  exact hx j _ (bc_get hb)
theorem one_one {x : Value} (h : x.oneCell' = true) : ∀ u ∈ [x], u.oneCell' = true := by simpa using h
theorem one_src (w : World) (t : TypeId) (x : Value) : 0 < 1 → ∃ a : Addr, (some (Addr.mk w.heap.size 0 none)) = some a ∧ ∀ (j : Nat) (u : Value), [x][j]? = some u → (w.alloc (.cells #[x] t)).cell? (a.add j) = some u := by
  refine fun _ => ⟨_, rfl, fun j u hu => ?_⟩
  have hj : j = 0 := by
    have := (List.getElem?_eq_some_iff.1 hu).1
    simpa using this
  subst hj
  obtain rfl := Option.some.inj hu
  exact (Row.new w t _).cellv rfl
section
variable {w w2 w7 : World} {B L L' : Nat} {e : TypeId} {v v' : Value} {xs ys : List Value} {size : Nat} {row : Option Nat}
theorem Owns.pushed {p p' : Option Addr} {n n' c c' : Nat} (ho : Owns w2 B e size (.slice p n c) L xs) (hB : B ≤ w2.heap.size) {o : Obj} (ho7 : Owns w7 0 e size (.slice p' n' c') L' ys)
    (hblk : Blk p p' n' c c' (w2.alloc o).heap.size) : Owns w7 B e size (.slice p' n' c') L' ys := by
  refine ho7.base fun k hk => ?_
  rcases hblk.own (n := n) with h | h
  · exact (ho.lt k (by rw [← h, hk])).1
  · rw [hk] at h
    obtain rfl := Option.some.inj h
    simp
    omega
theorem Mod.pushed {S : Nat → Prop} (hm : Mod S w w2) (ho : Owns w2 B e size v L xs) (hwB : w.heap.size ≤ B) {o : Obj} (hg : (w2.alloc o).grownBy w7 v.ownBlock) : Mod S w w7 :=
  (hm.alloc o).grown hg fun g hk => .inr (Nat.le_trans hwB (ho.lt g hk).1)
theorem Row.pushed {g : Nat} {t : TypeId} {cs : Array Value} (h : Row w2 g t cs) (ho : Owns w2 B e size v L xs) (hgB : g < B) {o : Obj} (hg : (w2.alloc o).grownBy w7 v.ownBlock) : Row w7 g t cs :=
  (h.alloc o).grown hg fun hk => by have := (ho.lt g hk.symm).1; omega
end
end Go.Proofs.YtgincpkggnndeaaGreatDoor
namespace Go.Proofs.YtgincpkggnndeaaGreatDoor
abbrev Txt := List UInt8
end Go.Proofs.YtgincpkggnndeaaGreatDoor
namespace Go.Proofs.YtgincpkggnndeaaGreatDoor
open Go.RowKit Vc

abbrev Still (w w' : World) : Prop := Mod (fun _ => False) w w'
theorem Still.trans {a b c : World} (h : Still a b) (k : Still b c) : Still a c := Mod.trans h k (fun _ h => h) (fun _ _ h => h)
theorem Still.refl (w : World) : Still w w := Mod.refl _ _
theorem Still.toDrew {a b : World} (h : Still a b) : Still a b.drew := Mod.drew h
theorem Still.ofDrew {a b : World} (h : Still a.drew b) : Still a b := ⟨h.os, h.tape, h.output, h.size, h.block⟩
theorem Still.cell {w w' : World} {a : Addr} {v : Value} (hm : Still w w') (h : w.cell? a = some v) : w'.cell? a = some v :=
  (World.cell?_of_block (hm.block _ (World.block_lt_of_cell? _ _ h) (fun h => h))).trans h
/-- What turned no block but one that is new turned none that stood. -/
theorem Still.box {w w1 w2 : World} {g : Nat} (h : Still w w1) (hg : w.heap.size ≤ g) (hm : Mod (fun i => i = g) w1 w2) : Still w w2 := Mod.trans h hm (fun _ h => h) (fun i hi e => by omega)
theorem Still.trans' {a b c : World} (h : Still a b) {B : Nat} (k : Below B b c) (hB : a.heap.size ≤ B) : Still a c :=
  ⟨k.os.trans h.os, k.tape.trans h.tape, k.output.trans h.output, Nat.le_trans h.size k.size, fun i hi hn => (k.block i (by omega)).trans (h.block i hi hn)⟩
theorem Row.still {w w' : World} {g : Nat} {t : TypeId} {cs : Array Value} (h : Row w g t cs) (hm : Still w w') : Row w' g t cs := h.mod hm (fun h => h)
theorem Owns.still {w w' : World} {B : Nat} {e : TypeId} {size : Nat} {v : Value} {n : Nat} {xs : List Value} (h : Owns w B e size v n xs) (hm : Still w w') : Owns w' B e size v n xs := h.mod hm (fun _ _ h => h)

theorem Row.lget {w : World} {g : Nat} {t : TypeId} {l : List Value} (h : Row w g t ⟨l⟩) {i : Nat} {v : Value} (hv : l[i]? = some v) : w.cell? ⟨g, i, none⟩ = some v := h.cellv (by simpa using hv)
theorem cells_one {v : Value} (h : v.oneCell' = true) : cellsOf v = [v] := by
  cases v <;> first | rfl | (simp [Value.oneCell'] at h)
/-- A part of one cell, whatever it is. -/
theorem spliceRaw {v : Value} {l : List Value} {off : Nat} {K : List Value → Prop} (h : v.oneCell' = true) (hl : off < l.length) (hK : K (l.set off v)) : bsel (Nat.beq (cellsOf v).length 1 && Nat.ble (off + (cellsOf v).length) l.length) (spliceK l off (cellsOf v) K) False := by
  rw [cells_one h]
  have : (Nat.beq [v].length 1 && Nat.ble (off + [v].length) l.length) = true := by simp; omega
  rw [this]
  have : ∀ (l : List Value) (n : Nat) (K : List Value → Prop), K (l.set n v) → setK l n v K := by
    intro l
    induction l with
    | nil => intro n K h; exact h
    | cons x r ih => intro n K h; cases n with
      | zero => exact h
      | succ n => exact ih n _ h
  exact this _ _ _ hK
theorem adds (a : Addr) (i j : Nat) : (a.add i).add j = a.add (i + j) := by
  unfold Addr.add
  by_cases hi : i = 0 <;> by_cases hj : j = 0 <;> simp [hi, hj, Nat.add_assoc]
theorem letIn {w : World} {C : World → Prop} (h : C w) : letW w C := h
theorem allocK {w : World} {cs : List Value} {t : TypeId} {C : World → Prop} (h : ∀ w1, Row w1 w.heap.size t ⟨cs⟩ → Still w w1 → w1.heap.size = w.heap.size + 1 → C w1) : letW (w.alloc (.cells ⟨cs⟩ t)) C :=
  h _ (Row.new w t ⟨cs⟩) ((Mod.refl _ _).alloc _) (World.size_alloc ..)
def ovw (cs : List Value) : Nat → List Value → List Value
  | _, [] => cs
  | o, v :: vs => ovw (cs.set o v) (o + 1) vs
theorem stCells_row {g : Nat} {t : TypeId} : ∀ {vs : List Value} {w : World} {cs : List Value} {i o : Nat} {K : World → Prop}, Row w g t ⟨cs⟩ → o + i + vs.length ≤ cs.length → (∀ v ∈ vs, v.oneCell' = true) →
    (∀ w', Row w' g t ⟨ovw cs (o + i) vs⟩ → Mod (fun k => k = g) w w' → w'.heap.size = w.heap.size → K w') → stCells (Addr.mk g o none) K i vs w
  | [], w, cs, i, o, K, hr, _, _, h => h w hr (Mod.refl _ _) rfl
  | v :: vs, w, cs, i, o, K, hr, hl, h1, h => by
    simp only [List.length_cons] at hl
    refine bsel_of (fun _ => ?_) (fun hv => by rw [h1 v (by simp)] at hv; cases hv)
    rw [add_row]
    have hr2 := hr.setl (o + i) v
    refine ⟨hr.wr (o + i) (by simp; omega), stCells_row hr2 (by simp; omega) (fun u hu => h1 u (by simp [hu])) fun w' h3 h4 h5 => h w' h3 ?_ (h5.trans (by simp [World.setCell]))⟩
    exact Mod.trans ((Mod.refl (fun k => k = g) w).setCell (p := Addr.mk g (o + i) none) (.inl rfl) v) h4 (fun _ h => h) (fun _ _ h => h)
/-- Cells stored into a row; the world behind has that row anew, and turned that one alone. -/
theorem stK {g : Nat} {t : TypeId} {vs : List Value} {w : World} {cs : List Value} {o : Nat} {K : World → Prop} (hr : Row w g t ⟨cs⟩) (hl : o + vs.length ≤ cs.length) (h1 : ∀ v ∈ vs, v.oneCell' = true)
    (h : ∀ w', Row w' g t ⟨ovw cs o vs⟩ → Mod (fun k => k = g) w w' → w'.heap.size = w.heap.size → K w') : stCells (Addr.mk g o none) K 0 vs w :=
  stCells_row hr (by simpa using hl) h1 fun w' h2 h3 h4 => h w' (by simpa using h2) h3 h4
/-- A box that is made, and filled at once. -/
theorem boxK {w : World} {cs : List Value} {t : TypeId} {vs : List Value} {K : World → Prop} (hl : vs.length = cs.length) (h1 : ∀ v ∈ vs, v.oneCell' = true)
    (h : ∀ w', Row w' w.heap.size t ⟨vs⟩ → Still w w' → w'.heap.size = w.heap.size + 1 → K w') : letW (w.alloc (.cells ⟨cs⟩ t)) (fun w1 => stCells (Addr.mk w.heap.size 0 none) K 0 vs w1) := by
  refine allocK fun w1 hr hs hz => stK hr (by omega) h1 fun w' h2 h3 h4 => h w' ?_ (hs.box (Nat.le_refl _) h3) (by omega)
  have e : ∀ (vs cs : List Value) (pre : List Value), vs.length = cs.length → ovw (pre ++ cs) pre.length vs = pre ++ vs := by
    intro vs
    induction vs with
    | nil => intro cs pre h; cases cs with
      | nil => rfl
      | cons c cs => cases h
    | cons v vs ih => intro cs pre h; cases cs with
      | nil => cases h
      | cons c cs =>
        have := ih cs (pre ++ [v]) (by simpa using h)
        simp only [ovw, List.set_append_right _ _ (Nat.le_refl pre.length), Nat.sub_self, List.set_cons_zero]
        simpa using this
  have := e vs cs [] hl
  simp only [List.nil_append, List.length_nil] at this
  rwa [this] at h2

theorem Owns.ownLt {w : World} {B : Nat} {e : TypeId} {size : Nat} {v : Value} {n : Nat} {xs : List Value} (h : Owns w B e size v n xs) {k : Nat} (hk : v.ownBlock = some k) : B ≤ k := (h.lt k hk).1
/-- What turned a slice's own row alone turned nothing that stood ahead of it. -/
theorem Still.own {w0 w w' : World} {B : Nat} {e : TypeId} {size : Nat} {v : Value} {n : Nat} {xs : List Value} (h : Still w0 w) (ho : Owns w B e size v n xs) (hB : w0.heap.size ≤ B) (hm : Mod (fun k => v.ownBlock = some k) w w') : Still w0 w' :=
  Mod.trans h hm (fun _ h => h) (fun i hi e => by have := ho.ownLt e; omega)
theorem Row.own {w w' : World} {B g : Nat} {e t : TypeId} {cs : Array Value} {size : Nat} {v : Value} {n : Nat} {xs : List Value} (h : Row w g t cs) (ho : Owns w B e size v n xs) (hg : g < B ∨ t ≠ e) (hm : Mod (fun k => v.ownBlock = some k) w w') : Row w' g t cs :=
  h.mod hm fun hk => by
    rcases hg with hg | hg
    · have := ho.ownLt hk; omega
    · obtain ⟨cur, hc⟩ := ho.typed hk
      exact h.ne hc hg rfl
theorem appK_push {w : World} {B : Nat} {e : TypeId} {sz bytes : Nat} {p q : Option Addr} {n c m : Nat} {xs : List Value} {K : Option Addr → Nat → World → Prop} (ho : Owns w B e sz (.slice p n c) n xs) (hB : B ≤ w.heap.size) (news : List Value)
    (hn : news.length = m * sz) (h1 : ∀ u ∈ news, u.oneCell' = true) (hq : 0 < m → ∃ a, q = some a ∧ ∀ j u, news[j]? = some u → w.cell? (a.add j) = some u) (hs : n + m ≤ 9223372036854775807) (hb : (n + m) * bytes ≤ 140737488355328)
    (h : ∀ p' c' w', Owns w' B e sz (.slice p' (n + m) c') (n + m) (xs ++ news) → Mod (fun k => (Value.slice p n c).ownBlock = some k) w w' → Blk p p' (n + m) c c' w.heap.size → K p' c' w') : appK w e sz bytes p n c q m K := by
  refine ⟨xs, news, ho.base0, hn, h1, hq, hs, hb, fun p' c' w' ho' hg hk => h p' c' w' (ho'.base fun k hk' => ?_) ((Mod.refl _ _).grown hg fun g hg => .inl hg) hk⟩
  rcases hk.own (n := n) with hk | hk
  · exact (ho.lt k (hk.symm.trans hk')).1
  · rw [hk'] at hk
    obtain rfl := Option.some.inj hk
    exact hB
theorem appS_push {w : World} {B : Nat} {e : TypeId} {sz bytes : Nat} {p : Option Addr} {n c : Nat} {b : List UInt8} {xs : List Value} {K : Option Addr → Nat → World → Prop} (ho : Owns w B e sz (.slice p n c) n xs) (hB : B ≤ w.heap.size)
    (hs : n + b.length ≤ 9223372036854775807) (hb : (n + b.length) * bytes ≤ 140737488355328)
    (h : ∀ p' c' w', Owns w' B e sz (.slice p' (n + b.length) c') (n + b.length) (xs ++ bc b) → Mod (fun k => (Value.slice p n c).ownBlock = some k) w w' → Blk p p' (n + b.length) c c' w.heap.size → K p' c' w') : appS w e sz bytes p n c b K := by
  refine ⟨xs, ho.base0, hs, hb, fun p' c' w' ho' hg hk => h p' c' w' (ho'.base fun k hk' => ?_) ((Mod.refl _ _).grown hg fun g hg => .inl hg) hk⟩
  rcases hk.own (n := n) with hk | hk
  · exact (ho.lt k (hk.symm.trans hk')).1
  · rw [hk'] at hk
    obtain rfl := Option.some.inj hk
    exact hB
/-- One element, boxed, and put behind a slice. -/
theorem push1 {w : World} {B : Nat} {e : TypeId} {sz bytes : Nat} {p : Option Addr} {n c : Nat} {xs cs : List Value} {K : Option Addr → Nat → World → Prop} (ho : Owns w B e sz (.slice p n c) n xs) (hB : B ≤ w.heap.size)
    (hl : cs.length = sz) (h1 : ∀ u ∈ cs, u.oneCell' = true) (hs : n + 1 ≤ 9223372036854775807) (hb : (n + 1) * bytes ≤ 140737488355328)
    (h : ∀ p' c' w', Owns w' B e sz (.slice p' (n + 1) c') (n + 1) (xs ++ cs) → Mod (fun k => (Value.slice p n c).ownBlock = some k) w w' → K p' c' w') :
    letW (w.alloc (.cells ⟨cs⟩ e)) (fun w2 => appK w2 e sz bytes p n c (some (Addr.mk w.heap.size 0 none)) 1 K) := by
  refine allocK fun w1 hr hst hz => ?_
  refine appK_push (ho.still hst) (by omega) cs (by omega) h1 (fun _ => ⟨_, rfl, fun j u hu => ?_⟩) hs hb fun p' c' w' ho' hm _ => h p' c' w' ho' (Mod.trans hst hm (fun _ h => h.elim) (fun _ _ h => h))
  rw [add_row, Nat.zero_add]
  exact hr.cellv (by simpa using hu)

/-- Slices of unlike elements own unlike rows. -/
theorem Owns.apart {w : World} {B B' : Nat} {e e' : TypeId} {size size' : Nat} {v v' : Value} {n n' : Nat} {xs xs' : List Value} (h : Owns w B e size v n xs) (h' : Owns w B' e' size' v' n' xs') (hne : e ≠ e') {k : Nat} (hk : v.ownBlock = some k) : v'.ownBlock ≠ some k := by
  intro hk'
  obtain ⟨cur, hr⟩ := h.typed hk
  obtain ⟨cur', hr'⟩ := h'.typed hk'
  exact hr.ne hr' hne rfl
theorem Owns.notRow {w : World} {B g : Nat} {e t : TypeId} {size : Nat} {v : Value} {n : Nat} {xs : List Value} {cs : Array Value} (h : Owns w B e size v n xs) (hr : Row w g t cs) (hne : e ≠ t) : v.ownBlock ≠ some g := by
  intro hk
  obtain ⟨cur, hr'⟩ := h.typed hk
  exact hr'.ne hr hne rfl
/-- Cells that stand at p, if there are any. -/
def At (w : World) (p : Option Addr) (n : Nat) (cs : List Value) : Prop := 0 < n → ∃ a, p = some a ∧ ∀ (j : Nat) (u : Value), cs[j]? = some u → w.cell? (a.add j) = some u
theorem At.still {w w' : World} {p : Option Addr} {n : Nat} {cs : List Value} (h : At w p n cs) (hm : Still w w') : At w' p n cs := fun hn => by
  obtain ⟨a, h1, h2⟩ := h hn
  exact ⟨a, h1, fun j u hu => hm.cell (h2 j u hu)⟩
/-- What stood ahead of block B stands, if only blocks from B on have turned. -/
def Ahead (B : Nat) (p : Option Addr) : Prop := ∀ a, p = some a → a.block < B
theorem At.from {w w' : World} {p : Option Addr} {n B : Nat} {cs : List Value} (h : At w p n cs) (hp : Ahead B p) {S : Nat → Prop} (hm : Mod S w w') (hS : ∀ k, S k → B ≤ k) : At w' p n cs := fun hn => by
  obtain ⟨a, rfl, h2⟩ := h hn
  refine ⟨a, rfl, fun j u hu => ?_⟩
  have hc := h2 j u hu
  have hb : (a.add j).block = a.block := by unfold Addr.add; split <;> rfl
  refine (World.cell?_of_block (hm.block _ (World.block_lt_of_cell? _ _ hc) (fun e => ?_))).trans hc
  have := hS _ e
  have := hp a rfl
  omega
theorem At.own {w : World} {B : Nat} {e : TypeId} {size : Nat} {p : Option Addr} {n C : Nat} {cs : List Value} (h : Owns w B e size (.slice p n C) n cs) : At w p n cs := fun hn => by
  obtain ⟨g, cap, he, _, _, _, hc⟩ := h.ownAddr hn
  injection he with e1 e2 e3
  subst e1
  refine ⟨_, rfl, fun j u hu => ?_⟩
  rw [add_row, Nat.zero_add]
  exact hc j u hu
theorem At.row {w : World} {g n : Nat} {t : TypeId} {cs : List Value} (h : Row w g t ⟨cs⟩) : At w (some ⟨g, 0, none⟩) n cs := fun _ => ⟨_, rfl, fun j u hu => by
  rw [add_row, Nat.zero_add]
  exact h.lget hu⟩
theorem flat_len {α : Type} {f : α → List Value} {sz : Nat} (hf : ∀ x, (f x).length = sz) : ∀ l : List α, (l.flatMap f).length = l.length * sz
  | [] => by simp
  | a :: l => by rw [List.flatMap_cons, List.length_append, hf, flat_len hf l, List.length_cons, Nat.add_mul]; omega
theorem flat_get {α : Type} {f : α → List Value} {sz : Nat} (hf : ∀ x, (f x).length = sz) : ∀ {l : List α} {i : Nat} {x : α}, l[i]? = some x → ∀ j, j < sz → (l.flatMap f)[i * sz + j]? = (f x)[j]?
  | a :: l, 0, x, h, j, hj => by
    obtain rfl := Option.some.inj h
    rw [List.flatMap_cons, Nat.zero_mul, Nat.zero_add, List.getElem?_append_left (by rw [hf]; exact hj)]
  | a :: l, i + 1, x, h, j, hj => by
    rw [List.flatMap_cons, List.getElem?_append_right (by rw [hf, Nat.add_mul]; omega), hf]
    have : (i + 1) * sz + j - sz = i * sz + j := by rw [Nat.add_mul]; omega
    rw [this]
    exact flat_get hf (l := l) (by simpa using h) j hj
theorem flat_one {α : Type} {f : α → List Value} (hf : ∀ x, ∀ u ∈ f x, u.oneCell' = true) (l : List α) : ∀ u ∈ l.flatMap f, u.oneCell' = true := by
  intro u hu
  obtain ⟨x, _, hx⟩ := List.mem_flatMap.1 hu
  exact hf x u hx
end Go.Proofs.YtgincpkggnndeaaGreatDoor
