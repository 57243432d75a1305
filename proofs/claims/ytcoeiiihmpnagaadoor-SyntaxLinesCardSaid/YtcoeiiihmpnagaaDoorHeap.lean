/- Plain facts on worlds: a block known whole, a relation 'only these blocks have turned'. Conditions: none; no program is named. -/
import Derived.WalkKit
import Derived.Laws.CopyOwn
namespace Go.Proofs.YtcoeiiihmpnagaaDoor
open Go.RowKit

/-- No cell of the row is frozen. -/
def Free (cs : Array Value) (fz : Nat × Nat) : Prop := fz.2 = 0 ∨ cs.size ≤ fz.1
/-- Block g is just the cells cs, of element type t, none of them frozen. -/
def Row (w : World) (g : Nat) (t : TypeId) (cs : Array Value) : Prop := ∃ fz, w.heap[g]? = some (.cells cs t fz) ∧ Free cs fz

/-- Only blocks of S may have turned; new ones may have come. -/
structure Mod (S : Nat → Prop) (w w' : World) : Prop where
  os : w'.os = w.os
  tape : w'.tape = w.tape
  output : w'.output = w.output
  size : w.heap.size ≤ w'.heap.size
  block : ∀ k, k < w.heap.size → ¬ S k → w'.heap[k]? = w.heap[k]?

section
variable {w w' : World} {g : Nat} {t : TypeId} {cs : Array Value} {S : Nat → Prop}
theorem Row.of0 (h : w.heap[g]? = some (.cells cs t (0, 0))) : Row w g t cs := ⟨_, h, .inl rfl⟩
theorem Row.lt (h : Row w g t cs) : g < w.heap.size := by
  obtain ⟨fz, h, _⟩ := h
  exact (Array.getElem?_eq_some_iff.1 h).1
theorem Row.cell (h : Row w g t cs) (i : Nat) : w.cell? ⟨g, i, none⟩ = cs[i]? := by
  obtain ⟨fz, h, _⟩ := h
  exact cell_of_row w g i cs t fz h
theorem Row.cellv (h : Row w g t cs) {i : Nat} {v : Value} (hv : cs[i]? = some v) : w.cell? ⟨g, i, none⟩ = some v := (h.cell i).trans hv
theorem Row.frozen (h : Row w g t cs) {i : Nat} (hi : i < cs.size) : w.frozen? ⟨g, i, none⟩ = false := by
  obtain ⟨⟨lo, hi'⟩, h, hf⟩ := h
  simp only [World.frozen?, h, Bool.and_eq_false_iff, decide_eq_false_iff_not]
  rcases hf with hf | hf <;> simp only at hf <;> omega
theorem Row.same (h : Row w g t cs) (hb : w'.heap[g]? = w.heap[g]?) : Row w' g t cs := by
  obtain ⟨fz, h, hf⟩ := h
  exact ⟨fz, hb.trans h, hf⟩
theorem Row.new (w : World) (t : TypeId) (cs : Array Value) : Row (w.alloc (.cells cs t)) w.heap.size t cs := Row.of0 (heap_alloc_new w _)
theorem Row.drew (h : Row w g t cs) : Row w.drew g t cs := h
theorem Row.alloc (h : Row w g t cs) (o : Obj) : Row (w.alloc o) g t cs := h.same (Below.heap_alloc w o g h.lt)
theorem Row.set (h : Row w g t cs) (i : Nat) (u : Value) : Row (w.setCell ⟨g, i, none⟩ u) g t (cs.setIfInBounds i u) := by
  obtain ⟨fz, h, hf⟩ := h
  refine ⟨fz, ?_, by simpa [Free] using hf⟩
  simp [World.setCell, Array.getElem?_modify, h]
theorem Row.far (h : Row w g t cs) {p : Addr} (hp : g ≠ p.block) (u : Value) : Row (w.setCell p u) g t cs := h.same (Below.heap_setCell w p u g hp)
theorem Row.setRow (h : Row w g t cs) (cs' : Array Value) (hs : cs'.size = cs.size := by simp) : Row (w.setRow g cs') g t cs' := by
  obtain ⟨fz, h, hf⟩ := h
  exact ⟨fz, setRow_heap w g cs cs' t _ h, by simpa [Free, hs] using hf⟩
theorem Row.setRow_far (h : Row w g t cs) {g' : Nat} (hp : g ≠ g') (cs' : Array Value) : Row (w.setRow g' cs') g t cs := h.same (setRow_other w g' g cs' hp)
theorem Row.below {B : Nat} (h : Row w g t cs) (hb : Below B w w') (hg : g < B) : Row w' g t cs := h.same (hb.block g hg)
theorem Row.mod (h : Row w g t cs) (hb : Mod S w w') (hg : ¬ S g) : Row w' g t cs := h.same (hb.block g h.lt hg)
theorem Row.grown {row : Option Nat} (h : Row w g t cs) (hb : w.grownBy w' row) (hg : some g ≠ row) : Row w' g t cs := h.same (hb.block g h.lt hg)
theorem Row.ne {g' : Nat} {t' : TypeId} {cs' : Array Value} (h : Row w g t cs) (h' : Row w g' t' cs') (hne : t ≠ t') : g ≠ g' := by
  rintro rfl
  obtain ⟨fz, h, _⟩ := h
  obtain ⟨fz', h', _⟩ := h'
  rw [h] at h'
  injection h' with h'
  injection h' with _ ht
  exact hne ht
theorem Row.uniq {t' : TypeId} {cs' : Array Value} (h : Row w g t cs) (h' : Row w g t' cs') : cs' = cs := by
  obtain ⟨fz, h, _⟩ := h
  obtain ⟨fz', h', _⟩ := h'
  rw [h] at h'
  injection h' with h'
  injection h' with h' _
  exact h'.symm

theorem Mod.refl (S : Nat → Prop) (w : World) : Mod S w w := ⟨rfl, rfl, rfl, Nat.le_refl _, fun _ _ _ => rfl⟩
theorem Mod.trans {a b c : World} {S T U : Nat → Prop} (h : Mod S a b) (k : Mod T b c) (hS : ∀ i, S i → U i) (hT : ∀ i, i < a.heap.size → T i → U i) : Mod U a c :=
  ⟨k.os.trans h.os, k.tape.trans h.tape, k.output.trans h.output, Nat.le_trans h.size k.size,
   fun i hi hn => (k.block i (Nat.lt_of_lt_of_le hi h.size) (fun e => hn (hT i hi e))).trans (h.block i hi (fun e => hn (hS i e)))⟩
theorem Mod.weaken {a b : World} {S U : Nat → Prop} (h : Mod S a b) (hS : ∀ i, S i → U i) : Mod U a b :=
  ⟨h.os, h.tape, h.output, h.size, fun i hi hn => h.block i hi (fun e => hn (hS i e))⟩
theorem Mod.drew {a b : World} (h : Mod S a b) : Mod S a b.drew := ⟨h.os, h.tape, h.output, h.size, h.block⟩
theorem Mod.alloc {a b : World} (h : Mod S a b) (o : Obj) : Mod S a (b.alloc o) :=
  ⟨h.os, h.tape, h.output, Nat.le_trans h.size (by simp), fun i hi hn => (Below.heap_alloc b o i (Nat.lt_of_lt_of_le hi h.size)).trans (h.block i hi hn)⟩
theorem Mod.setCell {a b : World} (h : Mod S a b) {p : Addr} (hp : S p.block ∨ a.heap.size ≤ p.block) (u : Value) : Mod S a (b.setCell p u) :=
  ⟨h.os, h.tape, h.output, by simpa [World.setCell] using h.size, fun i hi hn => (Below.heap_setCell b p u i (by
    rintro rfl
    rcases hp with hp | hp
    · exact hn hp
    · omega)).trans (h.block i hi hn)⟩
theorem Mod.setRow {a b : World} (h : Mod S a b) {g : Nat} (hp : S g ∨ a.heap.size ≤ g) (cs : Array Value) : Mod S a (b.setRow g cs) :=
  ⟨h.os, h.tape, h.output, by simpa using h.size, fun i hi hn => (setRow_other b g i cs (by
    rintro rfl
    rcases hp with hp | hp
    · exact hn hp
    · omega)).trans (h.block i hi hn)⟩
theorem Mod.grown {a b c : World} (h : Mod S a b) {row : Option Nat} (hg : b.grownBy c row) (hr : ∀ g, row = some g → S g ∨ a.heap.size ≤ g) : Mod S a c :=
  ⟨hg.os.trans h.os, hg.tape.trans h.tape, hg.output.trans h.output, Nat.le_trans h.size hg.size,
   fun i hi hn => (hg.block i (Nat.lt_of_lt_of_le hi h.size) (fun e => by
     rcases hr i e.symm with hp | hp
     · exact hn hp
     · omega)).trans (h.block i hi hn)⟩
theorem Mod.below {a b : World} (h : Mod S a b) {B : Nat} (hB : B ≤ a.heap.size) (hS : ∀ i, S i → B ≤ i) : Below B a b :=
  ⟨h.os, h.tape, h.output, h.size, fun k hk => h.block k (by omega) (fun e => by have := hS k e; omega)⟩
theorem Mod.of_below {a b : World} (h : Below a.heap.size a b) : Mod S a b := ⟨h.os, h.tape, h.output, h.size, fun k hk _ => h.block k hk⟩
end

/-- A slice's value that owns its row, of n elements of 'size' cells: xs. -/
def Owns (w : World) (B : Nat) (e : TypeId) (size : Nat) (v : Value) (n : Nat) (xs : List Value) : Prop :=
  xs.length = n * size ∧
  ((v = .slice none 0 0 ∧ n = 0) ∨
   ∃ g cap cur, v = .slice (some ⟨g, 0, none⟩) n cap ∧ B ≤ g ∧ Row w g e cur ∧ n ≤ cap ∧ cap ≤ maxLen ∧ cur.size = cap * size ∧ cur.toList.take (n * size) = xs)
section
variable {w w' : World} {B B' : Nat} {e : TypeId} {size : Nat} {v : Value} {n : Nat} {xs : List Value}
theorem Owns.nil (w : World) (B : Nat) (e : TypeId) (size : Nat) : Owns w B e size (.slice none 0 0) 0 [] := ⟨by simp, .inl ⟨rfl, rfl⟩⟩
theorem Owns.of (h : w.ownsRow B e size v n xs) : Owns w B e size v n xs := by
  obtain ⟨h1, h2 | ⟨g, cap, cur, rfl, h3, h4, h5⟩⟩ := h
  · exact ⟨h1, .inl h2⟩
  · exact ⟨h1, .inr ⟨g, cap, cur, rfl, h3, .of0 h4, h5⟩⟩
theorem Owns.lt (h : Owns w B e size v n xs) : ∀ k, v.ownBlock = some k → B ≤ k ∧ k < w.heap.size := by
  intro k hk
  rcases h.2 with ⟨rfl, _⟩ | ⟨g, cap, cur, rfl, hb, hg, _⟩
  · simp [Value.ownBlock] at hk
  · simp [Value.ownBlock] at hk
    subst hk
    exact ⟨hb, hg.lt⟩
theorem Owns.base (h : Owns w B e size v n xs) (hb : ∀ k, v.ownBlock = some k → B' ≤ k) : Owns w B' e size v n xs := by
  obtain ⟨h1, h2 | ⟨g, cap, cur, rfl, _, h3⟩⟩ := h
  · exact ⟨h1, .inl h2⟩
  · exact ⟨h1, .inr ⟨g, cap, cur, rfl, hb g rfl, h3⟩⟩
theorem Owns.base0 (h : Owns w B e size v n xs) : Owns w 0 e size v n xs := h.base (fun _ _ => Nat.zero_le _)
theorem Owns.block (h : Owns w B e size v n xs) (hb : ∀ k, v.ownBlock = some k → w'.heap[k]? = w.heap[k]?) : Owns w' B e size v n xs := by
  obtain ⟨h1, h2 | ⟨g, cap, cur, rfl, h0, h3, h4⟩⟩ := h
  · exact ⟨h1, .inl h2⟩
  · exact ⟨h1, .inr ⟨g, cap, cur, rfl, h0, h3.same (hb g rfl), h4⟩⟩
theorem Owns.mod {T : Nat → Prop} (h : Owns w B e size v n xs) (hm : Mod T w w') (hT : ∀ k, v.ownBlock = some k → ¬ T k) : Owns w' B e size v n xs :=
  h.block fun k hk => hm.block k (h.lt k hk).2 (hT k hk)
theorem Owns.alloc (h : Owns w B e size v n xs) (o : Obj) : Owns (w.alloc o) B e size v n xs :=
  h.block fun k hk => Below.heap_alloc w o k (h.lt k hk).2
theorem Owns.drew (h : Owns w B e size v n xs) : Owns w.drew B e size v n xs := h
theorem Owns.far (h : Owns w B e size v n xs) {p : Addr} (hp : v.ownBlock ≠ some p.block) (u : Value) : Owns (w.setCell p u) B e size v n xs :=
  h.block fun k hk => Below.heap_setCell w p u k (fun e => hp (by rw [hk, e]))
theorem Owns.grown {row : Option Nat} (h : Owns w B e size v n xs) (hg : w.grownBy w' row) (hne : ∀ k, v.ownBlock = some k → some k ≠ row) : Owns w' B e size v n xs :=
  h.block fun k hk => hg.block k (h.lt k hk).2 (hne k hk)
theorem Owns.form (h : Owns w B e size v n xs) : ∃ p c, v = .slice p n c := by
  rcases h.2 with ⟨rfl, rfl⟩ | ⟨g, cap, cur, rfl, _⟩
  · exact ⟨_, _, rfl⟩
  · exact ⟨_, _, rfl⟩
/-- The row behind a slice that owns one, and is not empty. -/
theorem Owns.row (h : Owns w B e size v n xs) (hn : 0 < n) : ∃ g cap cur, v = .slice (some ⟨g, 0, none⟩) n cap ∧ B ≤ g ∧ Row w g e cur ∧ n ≤ cap ∧ cur.size = cap * size ∧ cur.toList.take (n * size) = xs := by
  obtain ⟨h1, h2 | ⟨g, cap, cur, rfl, h0, h3, h4, _, h6, h7⟩⟩ := h
  · omega
  · exact ⟨g, cap, cur, rfl, h0, h3, h4, h6, h7⟩
theorem Owns.typed (h : Owns w B e size v n xs) {k : Nat} (hk : v.ownBlock = some k) : ∃ cur, Row w k e cur := by
  obtain ⟨h1, ⟨rfl, _⟩ | ⟨g, cap, cur, rfl, h0, h3, _⟩⟩ := h
  · cases hk
  · obtain rfl := Option.some.inj hk
    exact ⟨cur, h3⟩
theorem Owns.cells (h : Owns w B e size v n xs) {g : Nat} (hg : v.ownBlock = some g) : ∀ j u, xs[j]? = some u → w.cell? ⟨g, j, none⟩ = some u := by
  intro j u hu
  rcases h.2 with ⟨rfl, _⟩ | ⟨g', cap, cur, rfl, _, hgg, _, _, _, htake⟩
  · simp [Value.ownBlock] at hg
  · simp [Value.ownBlock] at hg
    subst hg
    rw [← htake, List.getElem?_take] at hu
    split at hu
    · exact hgg.cellv (by simpa using hu)
    · cases hu
theorem Owns.length (h : Owns w B e size v n xs) : xs.length = n * size := h.1

/-- Cells stored into a row of which none is frozen. -/
theorem run_storeRow (P : Program) (g o : Nat) (t : TypeId) : ∀ (vs : List Value) (i : Nat) (cur : Array Value) (w : World), Row w g t cur → o + i + vs.length ≤ cur.size → (∀ v ∈ vs, v.oneCell' = true) →
    (storeCells ⟨g, o, none⟩ vs i).run P w = .ok () (w.setRow g (cur.toList.take (o + i) ++ vs ++ cur.toList.drop (o + i + vs.length)).toArray)
  | [], i, cur, w, hg, _, _ => by
    obtain ⟨fz, hg, _⟩ := hg
    simp only [storeCells, List.append_nil, List.length_nil, Nat.add_zero, List.take_append_drop, Array.toArray_toList]
    rw [setRow_self w g cur t fz hg]
    rfl
  | v :: rest, i, cur, w, hg, hl, h1 => by
    have hi : o + i < cur.size := by simp at hl; omega
    have hadd : (⟨g, o, none⟩ : Addr).add i = ⟨g, o + i, none⟩ := by unfold Addr.add; split <;> simp_all
    have hcell : w.cell? ⟨g, o + i, none⟩ = some cur[o + i] := by rw [hg.cell]; simp [hi]
    have hfro := hg.frozen hi
    have hg1 : Row (w.setRow g (cur.setIfInBounds (o + i) v)) g t (cur.setIfInBounds (o + i) v) := hg.setRow _
    obtain ⟨fz, hg0, _⟩ := hg
    have hst : (store ((⟨g, o, none⟩ : Addr).add i) v).run P w = .ok () (w.setRow g (cur.setIfInBounds (o + i) v)) := by
      rw [hadd, run_store P w _ v _ (h1 v (by simp)), hcell]
      simp [hfro, setCell_eq_setRow w g (o + i) cur t fz v hg0]
    have ih := run_storeRow P g o t rest (i + 1) (cur.setIfInBounds (o + i) v) (w.setRow g (cur.setIfInBounds (o + i) v)) hg1 (by simp at hl ⊢; omega) (fun x hx => h1 x (by simp [hx]))
    simp only [storeCells, Sem.run_bind, hst, Result.andThen_ok, ih, setRow_setRow]
    congr 3
    simp only [Array.toList_setIfInBounds]
    apply List.ext_getElem?
    intro j
    simp only [List.getElem?_append, List.getElem?_take, List.getElem?_drop, List.length_take, List.length_set, List.length_append, List.getElem?_set, List.length_cons, Array.length_toList, List.getElem?_cons]
    grind
end
end Go.Proofs.YtcoeiiihmpnagaaDoor
