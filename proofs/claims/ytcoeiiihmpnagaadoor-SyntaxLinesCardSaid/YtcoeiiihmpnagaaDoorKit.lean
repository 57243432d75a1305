/- Steps of a walk over a condition that names its worlds: a block made, cells stored, both at rows known whole. Conditions: as each theorem names them; no program is named. -/
import Derived.Test.YtcoeiiihmpnagaaDoorM1
namespace Go.Proofs.YtcoeiiihmpnagaaDoor
open Go.RowKit Vc

abbrev Still (w w' : World) : Prop := Mod (fun _ => False) w w'
theorem Still.trans {a b c : World} (h : Still a b) (k : Still b c) : Still a c := Mod.trans h k (fun _ h => h) (fun _ _ h => h)
theorem Still.refl (w : World) : Still w w := Mod.refl _ _
theorem Still.toDrew {a b : World} (h : Still a b) : Still a b.drew := Mod.drew h
theorem Still.ofDrew {a b : World} (h : Still a.drew b) : Still a b := ⟨h.os, h.tape, h.output, h.size, h.block⟩
theorem Still.cell {w w' : World} {a : Addr} {v : Value} (hm : Still w w') (h : w.cell? a = some v) : w'.cell? a = some v :=
  (World.cell?_of_block (hm.block _ (World.block_lt_of_cell? _ _ h) (fun h => h))).trans h
/-- What turned no block but one that is new turned none that stood. -/
theorem Still.box {w w1 w2 : World} {g : Nat} (h : Still w w1) (hg : w.heap.size ≤ g) (hm : Mod (fun i => i = g) w1 w2) : Still w w2 := Mod.trans h hm (fun _ h => h) (fun i hi e => by omega)
theorem Still.trans' {a b c : World} (h : Still a b) {B : Nat} (k : Below B b c) (hB : a.heap.size ≤ B) : Still a c :=
  ⟨k.os.trans h.os, k.tape.trans h.tape, k.output.trans h.output, Nat.le_trans h.size k.size, fun i hi hn => (k.block i (by omega)).trans (h.block i hi hn)⟩
theorem Row.still {w w' : World} {g : Nat} {t : TypeId} {cs : Array Value} (h : Row w g t cs) (hm : Still w w') : Row w' g t cs := h.mod hm (fun h => h)
theorem Owns.still {w w' : World} {B : Nat} {e : TypeId} {size : Nat} {v : Value} {n : Nat} {xs : List Value} (h : Owns w B e size v n xs) (hm : Still w w') : Owns w' B e size v n xs := h.mod hm (fun _ _ h => h)

theorem Row.lget {w : World} {g : Nat} {t : TypeId} {l : List Value} (h : Row w g t ⟨l⟩) {i : Nat} {v : Value} (hv : l[i]? = some v) : w.cell? ⟨g, i, none⟩ = some v := h.cellv (by simpa using hv)
theorem cells_one {v : Value} (h : v.oneCell' = true) : cellsOf v = [v] := by
  cases v <;> first | rfl | (simp [Value.oneCell'] at h)
/-- A part of one cell, whatever it is. -/
theorem spliceRaw {v : Value} {l : List Value} {off : Nat} {K : List Value → Prop} (h : v.oneCell' = true) (hl : off < l.length) (hK : K (l.set off v)) : bsel (Nat.beq (cellsOf v).length 1 && Nat.ble (off + (cellsOf v).length) l.length) (spliceK l off (cellsOf v) K) False := by
  rw [cells_one h]
  have : (Nat.beq [v].length 1 && Nat.ble (off + [v].length) l.length) = true := by simp; omega
  rw [this]
  have : ∀ (l : List Value) (n : Nat) (K : List Value → Prop), K (l.set n v) → setK l n v K := by
    intro l
    induction l with
    | nil => intro n K h; exact h
    | cons x r ih => intro n K h; cases n with
      | zero => exact h
      | succ n => exact ih n _ h
  exact this _ _ _ hK
theorem adds (a : Addr) (i j : Nat) : (a.add i).add j = a.add (i + j) := by
  unfold Addr.add
  by_cases hi : i = 0 <;> by_cases hj : j = 0 <;> simp [hi, hj, Nat.add_assoc]
theorem letIn {w : World} {C : World → Prop} (h : C w) : letW w C := h
theorem allocK {w : World} {cs : List Value} {t : TypeId} {C : World → Prop} (h : ∀ w1, Row w1 w.heap.size t ⟨cs⟩ → Still w w1 → w1.heap.size = w.heap.size + 1 → C w1) : letW (w.alloc (.cells ⟨cs⟩ t)) C :=
  h _ (Row.new w t ⟨cs⟩) ((Mod.refl _ _).alloc _) (World.size_alloc ..)
def ovw (cs : List Value) : Nat → List Value → List Value
  | _, [] => cs
  | o, v :: vs => ovw (cs.set o v) (o + 1) vs
theorem stCells_row {g : Nat} {t : TypeId} : ∀ {vs : List Value} {w : World} {cs : List Value} {i o : Nat} {K : World → Prop}, Row w g t ⟨cs⟩ → o + i + vs.length ≤ cs.length → (∀ v ∈ vs, v.oneCell' = true) →
    (∀ w', Row w' g t ⟨ovw cs (o + i) vs⟩ → Mod (fun k => k = g) w w' → w'.heap.size = w.heap.size → K w') → stCells (Addr.mk g o none) K i vs w
  | [], w, cs, i, o, K, hr, _, _, h => h w hr (Mod.refl _ _) rfl
  | v :: vs, w, cs, i, o, K, hr, hl, h1, h => by
    simp only [List.length_cons] at hl
    refine bsel_of (fun _ => ?_) (fun hv => by rw [h1 v (by simp)] at hv; cases hv)
    rw [add_row]
    have hr2 := hr.setl (o + i) v
    refine ⟨hr.wr (o + i) (by simp; omega), stCells_row hr2 (by simp; omega) (fun u hu => h1 u (by simp [hu])) fun w' h3 h4 h5 => h w' h3 ?_ (h5.trans (by simp [World.setCell]))⟩
    exact Mod.trans ((Mod.refl (fun k => k = g) w).setCell (p := Addr.mk g (o + i) none) (.inl rfl) v) h4 (fun _ h => h) (fun _ _ h => h)
/-- Cells stored into a row; the world behind has that row anew, and turned that one alone. -/
theorem stK {g : Nat} {t : TypeId} {vs : List Value} {w : World} {cs : List Value} {o : Nat} {K : World → Prop} (hr : Row w g t ⟨cs⟩) (hl : o + vs.length ≤ cs.length) (h1 : ∀ v ∈ vs, v.oneCell' = true)
    (h : ∀ w', Row w' g t ⟨ovw cs o vs⟩ → Mod (fun k => k = g) w w' → w'.heap.size = w.heap.size → K w') : stCells (Addr.mk g o none) K 0 vs w :=
  stCells_row hr (by simpa using hl) h1 fun w' h2 h3 h4 => h w' (by simpa using h2) h3 h4
/-- A box that is made, and filled at once. -/
theorem boxK {w : World} {cs : List Value} {t : TypeId} {vs : List Value} {K : World → Prop} (hl : vs.length = cs.length) (h1 : ∀ v ∈ vs, v.oneCell' = true)
    (h : ∀ w', Row w' w.heap.size t ⟨vs⟩ → Still w w' → w'.heap.size = w.heap.size + 1 → K w') : letW (w.alloc (.cells ⟨cs⟩ t)) (fun w1 => stCells (Addr.mk w.heap.size 0 none) K 0 vs w1) := by
  refine allocK fun w1 hr hs hz => stK hr (by omega) h1 fun w' h2 h3 h4 => h w' ?_ (hs.box (Nat.le_refl _) h3) (by omega)
  have e : ∀ (vs cs : List Value) (pre : List Value), vs.length = cs.length → ovw (pre ++ cs) pre.length vs = pre ++ vs := by
    intro vs
    induction vs with
    | nil => intro cs pre h; cases cs with
      | nil => rfl
      | cons c cs => cases h
    | cons v vs ih => intro cs pre h; cases cs with
      | nil => cases h
      | cons c cs =>
        have := ih cs (pre ++ [v]) (by simpa using h)
        simp only [ovw, List.set_append_right _ _ (Nat.le_refl pre.length), Nat.sub_self, List.set_cons_zero]
        simpa using this
  have := e vs cs [] hl
  simp only [List.nil_append, List.length_nil] at this
  rwa [this] at h2

theorem Owns.ownLt {w : World} {B : Nat} {e : TypeId} {size : Nat} {v : Value} {n : Nat} {xs : List Value} (h : Owns w B e size v n xs) {k : Nat} (hk : v.ownBlock = some k) : B ≤ k := (h.lt k hk).1
/-- What turned a slice's own row alone turned nothing that stood ahead of it. -/
theorem Still.own {w0 w w' : World} {B : Nat} {e : TypeId} {size : Nat} {v : Value} {n : Nat} {xs : List Value} (h : Still w0 w) (ho : Owns w B e size v n xs) (hB : w0.heap.size ≤ B) (hm : Mod (fun k => v.ownBlock = some k) w w') : Still w0 w' :=
  Mod.trans h hm (fun _ h => h) (fun i hi e => by have := ho.ownLt e; omega)
theorem Row.own {w w' : World} {B g : Nat} {e t : TypeId} {cs : Array Value} {size : Nat} {v : Value} {n : Nat} {xs : List Value} (h : Row w g t cs) (ho : Owns w B e size v n xs) (hg : g < B ∨ t ≠ e) (hm : Mod (fun k => v.ownBlock = some k) w w') : Row w' g t cs :=
  h.mod hm fun hk => by
    rcases hg with hg | hg
    · have := ho.ownLt hk; omega
    · obtain ⟨cur, hc⟩ := ho.typed hk
      exact h.ne hc hg rfl
theorem appK_push {w : World} {B : Nat} {e : TypeId} {sz bytes : Nat} {p q : Option Addr} {n c m : Nat} {xs : List Value} {K : Option Addr → Nat → World → Prop} (ho : Owns w B e sz (.slice p n c) n xs) (hB : B ≤ w.heap.size) (news : List Value)
    (hn : news.length = m * sz) (h1 : ∀ u ∈ news, u.oneCell' = true) (hq : 0 < m → ∃ a, q = some a ∧ ∀ j u, news[j]? = some u → w.cell? (a.add j) = some u) (hs : n + m ≤ 9223372036854775807) (hb : (n + m) * bytes ≤ 140737488355328)
    (h : ∀ p' c' w', Owns w' B e sz (.slice p' (n + m) c') (n + m) (xs ++ news) → Mod (fun k => (Value.slice p n c).ownBlock = some k) w w' → Blk p p' (n + m) c c' w.heap.size → K p' c' w') : appK w e sz bytes p n c q m K := by
  refine ⟨xs, news, ho.base0, hn, h1, hq, hs, hb, fun p' c' w' ho' hg hk => h p' c' w' (ho'.base fun k hk' => ?_) ((Mod.refl _ _).grown hg fun g hg => .inl hg) hk⟩
  rcases hk.own (n := n) with hk | hk
  · exact (ho.lt k (hk.symm.trans hk')).1
  · rw [hk'] at hk
    obtain rfl := Option.some.inj hk
    exact hB
theorem appS_push {w : World} {B : Nat} {e : TypeId} {sz bytes : Nat} {p : Option Addr} {n c : Nat} {b : List UInt8} {xs : List Value} {K : Option Addr → Nat → World → Prop} (ho : Owns w B e sz (.slice p n c) n xs) (hB : B ≤ w.heap.size)
    (hs : n + b.length ≤ 9223372036854775807) (hb : (n + b.length) * bytes ≤ 140737488355328)
    (h : ∀ p' c' w', Owns w' B e sz (.slice p' (n + b.length) c') (n + b.length) (xs ++ bc b) → Mod (fun k => (Value.slice p n c).ownBlock = some k) w w' → Blk p p' (n + b.length) c c' w.heap.size → K p' c' w') : appS w e sz bytes p n c b K := by
  refine ⟨xs, ho.base0, hs, hb, fun p' c' w' ho' hg hk => h p' c' w' (ho'.base fun k hk' => ?_) ((Mod.refl _ _).grown hg fun g hg => .inl hg) hk⟩
  rcases hk.own (n := n) with hk | hk
  · exact (ho.lt k (hk.symm.trans hk')).1
  · rw [hk'] at hk
    obtain rfl := Option.some.inj hk
    exact hB
/-- One element, boxed, and put behind a slice. -/
theorem push1 {w : World} {B : Nat} {e : TypeId} {sz bytes : Nat} {p : Option Addr} {n c : Nat} {xs cs : List Value} {K : Option Addr → Nat → World → Prop} (ho : Owns w B e sz (.slice p n c) n xs) (hB : B ≤ w.heap.size)
    (hl : cs.length = sz) (h1 : ∀ u ∈ cs, u.oneCell' = true) (hs : n + 1 ≤ 9223372036854775807) (hb : (n + 1) * bytes ≤ 140737488355328)
    (h : ∀ p' c' w', Owns w' B e sz (.slice p' (n + 1) c') (n + 1) (xs ++ cs) → Mod (fun k => (Value.slice p n c).ownBlock = some k) w w' → K p' c' w') :
    letW (w.alloc (.cells ⟨cs⟩ e)) (fun w2 => appK w2 e sz bytes p n c (some (Addr.mk w.heap.size 0 none)) 1 K) := by
  refine allocK fun w1 hr hst hz => ?_
  refine appK_push (ho.still hst) (by omega) cs (by omega) h1 (fun _ => ⟨_, rfl, fun j u hu => ?_⟩) hs hb fun p' c' w' ho' hm _ => h p' c' w' ho' (Mod.trans hst hm (fun _ h => h.elim) (fun _ _ h => h))
  rw [add_row, Nat.zero_add]
  exact hr.cellv (by simpa using hu)

/-- Slices of unlike elements own unlike rows. -/
theorem Owns.apart {w : World} {B B' : Nat} {e e' : TypeId} {size size' : Nat} {v v' : Value} {n n' : Nat} {xs xs' : List Value} (h : Owns w B e size v n xs) (h' : Owns w B' e' size' v' n' xs') (hne : e ≠ e') {k : Nat} (hk : v.ownBlock = some k) : v'.ownBlock ≠ some k := by
  intro hk'
  obtain ⟨cur, hr⟩ := h.typed hk
  obtain ⟨cur', hr'⟩ := h'.typed hk'
  exact hr.ne hr' hne rfl
theorem Owns.notRow {w : World} {B g : Nat} {e t : TypeId} {size : Nat} {v : Value} {n : Nat} {xs : List Value} {cs : Array Value} (h : Owns w B e size v n xs) (hr : Row w g t cs) (hne : e ≠ t) : v.ownBlock ≠ some g := by
  intro hk
  obtain ⟨cur, hr'⟩ := h.typed hk
  exact hr'.ne hr hne rfl
/-- Cells that stand at p, if there are any. -/
def At (w : World) (p : Option Addr) (n : Nat) (cs : List Value) : Prop := 0 < n → ∃ a, p = some a ∧ ∀ (j : Nat) (u : Value), cs[j]? = some u → w.cell? (a.add j) = some u
theorem At.still {w w' : World} {p : Option Addr} {n : Nat} {cs : List Value} (h : At w p n cs) (hm : Still w w') : At w' p n cs := fun hn => by
  obtain ⟨a, h1, h2⟩ := h hn
  exact ⟨a, h1, fun j u hu => hm.cell (h2 j u hu)⟩
/-- What stood ahead of block B stands, if only blocks from B on have turned. -/
def Ahead (B : Nat) (p : Option Addr) : Prop := ∀ a, p = some a → a.block < B
theorem At.from {w w' : World} {p : Option Addr} {n B : Nat} {cs : List Value} (h : At w p n cs) (hp : Ahead B p) {S : Nat → Prop} (hm : Mod S w w') (hS : ∀ k, S k → B ≤ k) : At w' p n cs := fun hn => by
  obtain ⟨a, rfl, h2⟩ := h hn
  refine ⟨a, rfl, fun j u hu => ?_⟩
  have hc := h2 j u hu
  have hb : (a.add j).block = a.block := by unfold Addr.add; split <;> rfl
  refine (World.cell?_of_block (hm.block _ (World.block_lt_of_cell? _ _ hc) (fun e => ?_))).trans hc
  have := hS _ e
  have := hp a rfl
  omega
theorem At.own {w : World} {B : Nat} {e : TypeId} {size : Nat} {p : Option Addr} {n C : Nat} {cs : List Value} (h : Owns w B e size (.slice p n C) n cs) : At w p n cs := fun hn => by
  obtain ⟨g, cap, he, _, _, _, hc⟩ := h.ownAddr hn
  injection he with e1 e2 e3
  subst e1
  refine ⟨_, rfl, fun j u hu => ?_⟩
  rw [add_row, Nat.zero_add]
  exact hc j u hu
theorem At.row {w : World} {g n : Nat} {t : TypeId} {cs : List Value} (h : Row w g t ⟨cs⟩) : At w (some ⟨g, 0, none⟩) n cs := fun _ => ⟨_, rfl, fun j u hu => by
  rw [add_row, Nat.zero_add]
  exact h.lget hu⟩
theorem flat_len {α : Type} {f : α → List Value} {sz : Nat} (hf : ∀ x, (f x).length = sz) : ∀ l : List α, (l.flatMap f).length = l.length * sz
  | [] => by simp
  | a :: l => by rw [List.flatMap_cons, List.length_append, hf, flat_len hf l, List.length_cons, Nat.add_mul]; omega
theorem flat_get {α : Type} {f : α → List Value} {sz : Nat} (hf : ∀ x, (f x).length = sz) : ∀ {l : List α} {i : Nat} {x : α}, l[i]? = some x → ∀ j, j < sz → (l.flatMap f)[i * sz + j]? = (f x)[j]?
  | a :: l, 0, x, h, j, hj => by
    obtain rfl := Option.some.inj h
    rw [List.flatMap_cons, Nat.zero_mul, Nat.zero_add, List.getElem?_append_left (by rw [hf]; exact hj)]
  | a :: l, i + 1, x, h, j, hj => by
    rw [List.flatMap_cons, List.getElem?_append_right (by rw [hf, Nat.add_mul]; omega), hf]
    have : (i + 1) * sz + j - sz = i * sz + j := by rw [Nat.add_mul]; omega
    rw [this]
    exact flat_get hf (l := l) (by simpa using h) j hj
theorem flat_one {α : Type} {f : α → List Value} (hf : ∀ x, ∀ u ∈ f x, u.oneCell' = true) (l : List α) : ∀ u ∈ l.flatMap f, u.oneCell' = true := by
  intro u hu
  obtain ⟨x, _, hx⟩ := List.mem_flatMap.1 hu
  exact hf x u hx
end Go.Proofs.YtcoeiiihmpnagaaDoor
