/- Lists of things in the heap, each in cells of its own: read, kept, and added to. Conditions: as each theorem names them. -/
import Derived.Test.YtcoeiiihmpnagaaDoorWdAt
namespace Go.Proofs.YtcoeiiihmpnagaaDoor
open Go.RowKit Vc
variable {w : World} {α : Type}

/-- How a thing stands in cells; what it leads to stands in blocks of F. -/
structure Enc (α : Type) where
  sz : Nat
  E : World → (Nat → Prop) → α → List Value → Prop
  len : ∀ {w : World} {F : Nat → Prop} {x : α} {cs : List Value}, E w F x cs → cs.length = sz
  one : ∀ {w : World} {F : Nat → Prop} {x : α} {cs : List Value}, E w F x cs → ∀ u ∈ cs, u.oneCell' = true
  turn : ∀ {w w' : World} {F G : Nat → Prop} {x : α} {cs : List Value}, (∀ k, F k → G k) → (∀ a v, (∃ k, F k ∧ a.block = k) → w.cell? a = some v → w'.cell? a = some v) → E w F x cs → E w' G x cs
def Enc.Cs (e : Enc α) (w : World) (F : Nat → Prop) : List α → List Value → Prop
  | [], xs => xs = []
  | x :: r, xs => ∃ cs ys, xs = cs ++ ys ∧ e.E w F x cs ∧ e.Cs w F r ys
def CellsAt (w : World) (b : Addr) (xs : List Value) : Prop := ∀ (j : Nat) (u : Value), xs[j]? = some u → w.cell? (b.add j) = some u
def Enc.At (e : Enc α) (w : World) (F : Nat → Prop) (l : List α) (v : Value) : Prop := ∃ p c, v = .slice p l.length c ∧ l.length ≤ c ∧ (l ≠ [] → ∃ b xs, p = some b ∧ F b.block ∧ e.Cs w F l xs ∧ CellsAt w b xs)
def Enc.Out (e : Enc α) (w : World) (B : Nat) (t : TypeId) (l : List α) (v : Value) : Prop := ∃ p c xs, v = .slice p l.length c ∧ Owns w B t e.sz v l.length xs ∧ e.Cs w (fun k => B ≤ k ∧ k < w.heap.size ∧ v.ownBlock ≠ some k) l xs
section
variable {e : Enc α} {F G : Nat → Prop}
theorem Enc.Cs.len : ∀ {l : List α} {xs : List Value}, e.Cs w F l xs → xs.length = l.length * e.sz
  | [], xs, h => by rw [show xs = [] from h, List.length_nil, List.length_nil, Nat.zero_mul]
  | x :: r, xs, ⟨cs, ys, h1, h2, h3⟩ => by
    rw [h1, List.length_append, e.len h2, Enc.Cs.len h3, List.length_cons, Nat.succ_mul]
    omega
theorem Enc.Cs.one : ∀ {l : List α} {xs : List Value}, e.Cs w F l xs → ∀ u ∈ xs, u.oneCell' = true
  | [], xs, h => by rw [show xs = [] from h]; simp
  | x :: r, xs, ⟨cs, ys, h1, h2, h3⟩ => by
    intro u hu
    rw [h1] at hu
    rcases List.mem_append.1 hu with hu | hu
    · exact e.one h2 u hu
    · exact Enc.Cs.one h3 u hu
theorem Enc.Cs.turn {w' : World} (hF : ∀ k, F k → G k) (hw : ∀ a v, (∃ k, F k ∧ a.block = k) → w.cell? a = some v → w'.cell? a = some v) : ∀ {l : List α} {xs : List Value}, e.Cs w F l xs → e.Cs w' G l xs
  | [], xs, h => h
  | x :: r, xs, ⟨cs, ys, h1, h2, h3⟩ => ⟨cs, ys, h1, e.turn hF hw h2, Enc.Cs.turn hF hw h3⟩
theorem Enc.Cs.append : ∀ {l m : List α} {xs ys : List Value}, e.Cs w F l xs → e.Cs w F m ys → e.Cs w F (l ++ m) (xs ++ ys)
  | [], m, xs, ys, h, k => by rw [show xs = [] from h]; exact k
  | x :: r, m, xs, ys, ⟨cs, zs, h1, h2, h3⟩, k => ⟨cs, zs ++ ys, by rw [h1, List.append_assoc], h2, Enc.Cs.append h3 k⟩
theorem Enc.Cs.single {x : α} {cs : List Value} (h : e.E w F x cs) : e.Cs w F [x] cs := ⟨cs, [], (List.append_nil _).symm, h, rfl⟩
theorem Enc.Cs.get : ∀ {l : List α} {xs : List Value} {i : Nat} {x : α}, e.Cs w F l xs → l[i]? = some x → ∃ cs, e.E w F x cs ∧ ∀ (j : Nat) (u : Value), cs[j]? = some u → xs[i * e.sz + j]? = some u
  | y :: r, xs, 0, x, ⟨cs, ys, h1, h2, h3⟩, hx => by
    obtain rfl := Option.some.inj hx
    refine ⟨cs, h2, fun j u hu => ?_⟩
    rw [h1, Nat.zero_mul, Nat.zero_add, List.getElem?_append_left (List.getElem?_eq_some_iff.1 hu).1]
    exact hu
  | y :: r, xs, i + 1, x, ⟨cs, ys, h1, h2, h3⟩, hx => by
    obtain ⟨cs', g1, g2⟩ := Enc.Cs.get (i := i) h3 (by simpa using hx)
    refine ⟨cs', g1, fun j u hu => ?_⟩
    have hl := e.len h2
    rw [h1, Nat.succ_mul, List.getElem?_append_right (by omega), hl, show i * e.sz + e.sz + j - e.sz = i * e.sz + j by omega]
    exact g2 j u hu
theorem CellsAt.still {w' : World} {b : Addr} {xs : List Value} (h : CellsAt w b xs) (hm : Still w w') : CellsAt w' b xs := fun j u hu => hm.cell (h j u hu)
theorem CellsAt.row {g : Nat} {t : TypeId} {xs : List Value} (h : Row w g t ⟨xs⟩) : CellsAt w ⟨g, 0, none⟩ xs := fun j u hu => by
  rw [add_row, Nat.zero_add]
  exact h.lget hu
theorem Enc.At.turn {w' : World} (hF : ∀ k, F k → G k) (hw : ∀ a v, (∃ k, F k ∧ a.block = k) → w.cell? a = some v → w'.cell? a = some v) {l : List α} {v : Value} (h : e.At w F l v) : e.At w' G l v := by
  obtain ⟨p, c, rfl, h2, h3⟩ := h
  refine ⟨p, c, rfl, h2, fun hl => ?_⟩
  obtain ⟨b, xs, rfl, h4, h5, h6⟩ := h3 hl
  exact ⟨b, xs, rfl, hF _ h4, h5.turn hF hw, fun j u hu => hw _ _ ⟨_, h4, add_block b j⟩ (h6 j u hu)⟩
theorem Enc.At.mono (hF : ∀ k, F k → G k) {l : List α} {v : Value} (h : e.At w F l v) : e.At w G l v := h.turn hF fun _ _ _ h => h
theorem Enc.At.any {l : List α} {v : Value} (h : e.At w F l v) : e.At w (fun _ => True) l v := h.mono fun _ _ => trivial
theorem Enc.At.mod {S : Nat → Prop} {w' : World} {l : List α} {v : Value} (h : e.At w F l v) (hm : Mod S w w') (hS : ∀ k, F k → ¬ S k) : e.At w' F l v :=
  h.turn (fun _ h => h) fun a v ⟨k, hk, ea⟩ hc => mod_cell hm (by rw [ea]; exact hS k hk) hc
theorem Enc.At.still {w' : World} {l : List α} {v : Value} (h : e.At w F l v) (hm : Still w w') : e.At w' F l v := h.mod hm fun _ _ h => h
theorem Enc.At.nil (e : Enc α) (w : World) (F : Nat → Prop) (p : Option Addr) (c : Nat) : e.At w F [] (.slice p 0 c) := ⟨p, c, rfl, Nat.zero_le _, fun h => absurd rfl h⟩
theorem Enc.At.form {l : List α} {v : Value} (h : e.At w F l v) : ∃ p c, v = .slice p l.length c := by
  obtain ⟨p, c, he, _⟩ := h
  exact ⟨p, c, he⟩
theorem Enc.At.one {l : List α} {v : Value} (h : e.At w F l v) : v.oneCell' = true := by
  obtain ⟨p, c, rfl, _⟩ := h
  rfl
theorem Enc.At.len {l : List α} {p : Option Addr} {n c : Nat} (h : e.At w F l (.slice p n c)) : n = l.length ∧ l.length ≤ c := by
  obtain ⟨p', c', he, h2, _⟩ := h
  injection he with e1 e2 e3
  subst e3
  exact ⟨e2, h2⟩
theorem Enc.At.get {l : List α} {p : Option Addr} {n c : Nat} (h : e.At w F l (.slice p n c)) {i : Nat} {x : α} (hx : l[i]? = some x) : ∃ b cs, p = some b ∧ F b.block ∧ e.E w F x cs ∧ CellsAt w (b.add (i * e.sz)) cs := by
  obtain ⟨p', c', he, h2, h3⟩ := h
  injection he with e1 e2 e3
  subst e1 e2 e3
  have hl : l ≠ [] := by rintro rfl; cases hx
  obtain ⟨b, xs, rfl, h4, h5, h6⟩ := h3 hl
  obtain ⟨cs, g1, g2⟩ := h5.get hx
  refine ⟨b, cs, rfl, h4, g1, fun j u hu => ?_⟩
  rw [adds]
  exact h6 _ u (g2 j u hu)
/-- A slice but for its first element. -/
theorem Enc.At.tail {x : α} {r : List α} {a : Addr} {n c : Nat} (h : e.At w F (x :: r) (.slice (some a) n c)) : e.At w F r (.slice (some (a.add e.sz)) (n - 1) (c - 1)) := by
  obtain ⟨p', c', he, h2, h3⟩ := h
  injection he with e1 e2 e3
  subst e1 e2 e3
  obtain ⟨b, xs, hb, h4, ⟨cs, ys, h5, h6, h7⟩, h8⟩ := h3 (by simp)
  obtain rfl := Option.some.inj hb
  refine ⟨some (a.add e.sz), c - 1, by rw [List.length_cons, Nat.add_sub_cancel], by simp only [List.length_cons] at h2; omega, fun _ => ⟨_, ys, rfl, by rw [add_block]; exact h4, h7, fun j u hu => ?_⟩⟩
  rw [adds]
  refine h8 _ u ?_
  have hl := e.len h6
  rw [h5, List.getElem?_append_right (by omega), show e.sz + j - cs.length = j by omega]
  exact hu
theorem Enc.At.ptr {x : α} {r : List α} {p : Option Addr} {n c : Nat} (h : e.At w F (x :: r) (.slice p n c)) : ∃ a, p = some a := by
  obtain ⟨b, _, hb, _⟩ := h.get (i := 0) rfl
  exact ⟨b, hb⟩
/-- A slice of a row that is known whole. -/
theorem Enc.At.row {g c : Nat} {t : TypeId} {l : List α} {xs : List Value} (hr : Row w g t ⟨xs⟩) (hc : e.Cs w F l xs) (hF : F g) (hl : l.length ≤ c) : e.At w F l (.slice (some ⟨g, 0, none⟩) l.length c) :=
  ⟨_, c, rfl, hl, fun _ => ⟨_, xs, rfl, hF, hc, CellsAt.row hr⟩⟩

theorem Enc.Out.nil (e : Enc α) (w : World) (B : Nat) (t : TypeId) : e.Out w B t [] (.slice none 0 0) := ⟨none, 0, [], rfl, Owns.nil _ _ _ _, rfl⟩
theorem Enc.Out.form {B : Nat} {t : TypeId} {l : List α} {v : Value} (h : e.Out w B t l v) : ∃ p c, v = .slice p l.length c := by
  obtain ⟨p, c, _, he, _⟩ := h
  exact ⟨p, c, he⟩
theorem Enc.Out.at {B : Nat} {t : TypeId} {l : List α} {v : Value} (h : e.Out w B t l v) (_hz : 0 < e.sz) : e.At w (fun k => B ≤ k ∧ k < w.heap.size) l v := by
  obtain ⟨p, c, xs, rfl, ho, hc⟩ := h
  obtain ⟨p', c', he, hle⟩ := ho.cap
  injection he with _ _ e3
  subst e3
  refine ⟨p, c, rfl, hle, fun hl => ?_⟩
  have hn : 0 < l.length := List.length_pos_iff.2 hl
  obtain ⟨g, cap, he, hB, hg, _, hcell⟩ := ho.ownAddr hn
  injection he with e1 e2 e3
  subst e1
  refine ⟨_, xs, rfl, ⟨hB, hg⟩, hc.turn (fun k hk => ⟨hk.1, hk.2.1⟩) (fun _ _ _ h => h), fun j u hu => ?_⟩
  rw [add_row, Nat.zero_add]
  exact hcell j u hu
theorem Enc.Out.mod {S : Nat → Prop} {w' : World} {B : Nat} {t : TypeId} {l : List α} {v : Value} (h : e.Out w B t l v) (hm : Mod S w w') (hS : ∀ k, B ≤ k → k < w.heap.size → ¬ S k) : e.Out w' B t l v := by
  obtain ⟨p, c, xs, rfl, ho, hc⟩ := h
  refine ⟨p, c, xs, rfl, ho.mod hm fun k hk => hS k (ho.lt k hk).1 (ho.lt k hk).2, hc.turn (fun k hk => ⟨hk.1, Nat.lt_of_lt_of_le hk.2.1 hm.size, hk.2.2⟩) fun a v ⟨k, hk, ea⟩ hcell => mod_cell hm (by rw [ea]; exact hS k hk.1 hk.2.1) hcell⟩
theorem Enc.Out.still {w' : World} {B : Nat} {t : TypeId} {l : List α} {v : Value} (h : e.Out w B t l v) (hm : Still w w') : e.Out w' B t l v := h.mod hm fun _ _ _ h => h
theorem Enc.Out.low {B B' : Nat} {t : TypeId} {l : List α} {v : Value} (h : e.Out w B t l v) (hB : B' ≤ B) : e.Out w B' t l v := by
  obtain ⟨p, c, xs, rfl, ho, hc⟩ := h
  exact ⟨p, c, xs, rfl, ho.base fun k hk => Nat.le_trans hB (ho.lt k hk).1, hc.turn (fun k hk => ⟨Nat.le_trans hB hk.1, hk.2⟩) fun _ _ _ h => h⟩
/-- One thing more. -/
theorem Enc.Out.push {B bytes : Nat} {t : TypeId} {l : List α} {p : Option Addr} {n c : Nat} {x : α} {cs : List Value} {K : Option Addr → Nat → World → Prop} (ho : e.Out w B t l (.slice p n c)) (hB : B ≤ w.heap.size)
    (hx : e.E w (fun k => B ≤ k ∧ k < w.heap.size ∧ (Value.slice p n c).ownBlock ≠ some k) x cs) (hs : n + 1 ≤ 9223372036854775807) (hb : (n + 1) * bytes ≤ 140737488355328)
    (h : ∀ p' c' w', e.Out w' B t (l ++ [x]) (.slice p' (n + 1) c') → Mod (fun k => (Value.slice p n c).ownBlock = some k) w w' → K p' c' w') :
    letW (w.alloc (.cells ⟨cs⟩ t)) (fun w2 => appK w2 t e.sz bytes p n c (some (Addr.mk w.heap.size 0 none)) 1 K) := by
  obtain ⟨p0, c0, xs, he, ho, hc⟩ := ho
  injection he with e1 e2 e3
  subst e1 e2 e3
  have hl := e.len hx
  refine allocK fun w1 hr hst hz => ?_
  refine appK_push (ho.still hst) (by omega) cs (by omega) (e.one hx) (fun _ => ⟨_, rfl, fun j u hu => ?_⟩) hs hb fun p' c' w' ho' hm hk => h p' c' w' ?_ (Mod.trans hst hm (fun _ h => h.elim) (fun _ _ h => h))
  · rw [add_row, Nat.zero_add]
    exact hr.cellv (by simpa using hu)
  · have hz' := hm.size
    refine ⟨p', c', xs ++ cs, by rw [List.length_append]; rfl, by rw [List.length_append]; exact ho', ?_⟩
    have hn : ∀ k, k < w.heap.size → (Value.slice p l.length c).ownBlock ≠ some k → (Value.slice p' (l.length + 1) c').ownBlock ≠ some k := by
      intro k hkl hne hk'
      rcases hk.own (n := l.length) with hk | hk
      · exact hne (hk.symm.trans hk')
      · rw [hk'] at hk
        have := Option.some.inj hk
        omega
    refine (hc.append (Enc.Cs.single hx)).turn (fun k hk => ⟨hk.1, by omega, hn k hk.2.1 hk.2.2⟩) fun a v ⟨k, hk, ea⟩ hcell => mod_cell hm (by rw [ea]; exact hk.2.2) (hst.cell hcell)
end
end Go.Proofs.YtcoeiiihmpnagaaDoor
