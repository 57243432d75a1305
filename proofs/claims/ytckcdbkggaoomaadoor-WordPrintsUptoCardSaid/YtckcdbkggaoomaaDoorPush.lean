/- Bytes and words that are added to a row. Conditions: none; no program is named. -/
import Derived.Test.YtckcdbkggaoomaaDoorPlain
namespace Go.Proofs.YtckcdbkggaoomaaDoor
open Go.RowKit Vc

/-- Cells of bytes. -/
def bc (l : List UInt8) : List Value := l.map fun b => .int .u8 b.toNat
@[simp] theorem bc_length (l : List UInt8) : (bc l).length = l.length := by simp [bc]
theorem bc_set (l : List UInt8) (i : Nat) (b : UInt8) : (bc l).set i (.int .u8 (b.toNat : Int)) = bc (l.set i b) := by simp [bc, List.map_set]
theorem bc_append (l m : List UInt8) : bc (l ++ m) = bc l ++ bc m := by simp [bc]
theorem bc_get {l : List UInt8} {i : Nat} {b : UInt8} (h : l[i]? = some b) : (bc l)[i]? = some (.int .u8 (b.toNat : Int)) := by simp [bc, h]
theorem bc_one (l : List UInt8) : ∀ v ∈ bc l, v.oneCell' = true := by
  intro v hv
  simp only [bc, List.mem_map] at hv
  obtain ⟨x, _, rfl⟩ := hv
  rfl
theorem Row.bytes {w : World} {g : Nat} {t : TypeId} {l : List UInt8} (h : Row w g t ⟨bc l⟩) {n : Nat} (hn : l.length = n) : BytesAt (fun a v => w.cell? a = some v) (some ⟨g, 0, none⟩) n l := by
  refine ⟨hn, fun _ => ⟨_, rfl, fun j b hb => ?_⟩⟩
  rw [add_row, Nat.zero_add]
  exact h.cellv (by simpa using bc_get hb)
theorem Owns.ownAddr {w : World} {B : Nat} {e : TypeId} {size : Nat} {v : Value} {n : Nat} {xs : List Value} (h : Owns w B e size v n xs) (hn : 0 < n) : ∃ g cap, v = .slice (some ⟨g, 0, none⟩) n cap ∧ B ≤ g ∧ g < w.heap.size ∧ n ≤ cap ∧ ∀ j u, xs[j]? = some u → w.cell? ⟨g, j, none⟩ = some u := by
  obtain ⟨g, cap, cur, rfl, hb, hr, hc, _, _⟩ := h.row hn
  exact ⟨g, cap, rfl, hb, hr.lt, hc, h.cells rfl⟩
theorem Owns.bytes {w : World} {B : Nat} {e : TypeId} {p : Option Addr} {n c : Nat} {l : List UInt8} (h : Owns w B e 1 (.slice p n c) n (bc l)) : BytesAt (fun a v => w.cell? a = some v) p n l := by
  have hl := h.length
  rw [bc_length] at hl
  refine ⟨by omega, fun hn => ?_⟩
  obtain ⟨g, cap, he, _, _, _, hx⟩ := h.ownAddr hn
  injection he with e1 e2 e3
  subst e1
  refine ⟨_, rfl, fun j b hb => ?_⟩
  rw [add_row, Nat.zero_add]
  exact hx j _ (bc_get hb)
theorem one_one {x : Value} (h : x.oneCell' = true) : ∀ u ∈ [x], u.oneCell' = true := by simpa using h
theorem one_src (w : World) (t : TypeId) (x : Value) : 0 < 1 → ∃ a : Addr, (some (Addr.mk w.heap.size 0 none)) = some a ∧ ∀ (j : Nat) (u : Value), [x][j]? = some u → (w.alloc (.cells #[x] t)).cell? (a.add j) = some u := by
  refine fun _ => ⟨_, rfl, fun j u hu => ?_⟩
  have hj : j = 0 := by
    have := (List.getElem?_eq_some_iff.1 hu).1
    simpa using this
  subst hj
  obtain rfl := Option.some.inj hu
  exact (Row.new w t _).cellv rfl
section
variable {w w2 w7 : World} {B L L' : Nat} {e : TypeId} {v v' : Value} {xs ys : List Value} {size : Nat} {row : Option Nat}
theorem Owns.pushed {p p' : Option Addr} {n n' c c' : Nat} (ho : Owns w2 B e size (.slice p n c) L xs) (hB : B ≤ w2.heap.size) {o : Obj} (ho7 : Owns w7 0 e size (.slice p' n' c') L' ys)
    (hblk : Blk p p' n' c c' (w2.alloc o).heap.size) : Owns w7 B e size (.slice p' n' c') L' ys := by
  refine ho7.base fun k hk => ?_
  rcases hblk.own (n := n) with h | h
  · exact (ho.lt k (by rw [← h, hk])).1
  · rw [hk] at h
    obtain rfl := Option.some.inj h
    simp
    omega
theorem Mod.pushed {S : Nat → Prop} (hm : Mod S w w2) (ho : Owns w2 B e size v L xs) (hwB : w.heap.size ≤ B) {o : Obj} (hg : (w2.alloc o).grownBy w7 v.ownBlock) : Mod S w w7 :=
  (hm.alloc o).grown hg fun g hk => .inr (Nat.le_trans hwB (ho.lt g hk).1)
theorem Row.pushed {g : Nat} {t : TypeId} {cs : Array Value} (h : Row w2 g t cs) (ho : Owns w2 B e size v L xs) (hgB : g < B) {o : Obj} (hg : (w2.alloc o).grownBy w7 v.ownBlock) : Row w7 g t cs :=
  (h.alloc o).grown hg fun hk => by have := (ho.lt g hk.symm).1; omega
end
end Go.Proofs.YtckcdbkggaoomaaDoor
