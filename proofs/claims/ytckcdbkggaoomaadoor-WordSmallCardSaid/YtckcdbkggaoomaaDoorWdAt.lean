/- Parts of words in the heap. Conditions: as each theorem names them. -/
import Derived.Test.YtckcdbkggaoomaaDoorWd
import Derived.Test.YtckcdbkggaoomaaDoorKit
namespace Go.Proofs.YtckcdbkggaoomaaDoor
open Go.RowKit Vc
variable {w : World}

theorem add_block (a : Addr) (i : Nat) : (a.add i).block = a.block := by unfold Addr.add; split <;> rfl
/-- A part's cells, but for its word's slice, which is v. -/
def pcell (p : Pt) (v : Value) : List Value := [.int .i64 p.k, .bool p.q, .string (S p.t), .string (S p.n), .string (S p.o), v]
mutual
/-- A part stands at a; its word, and all in it, in blocks of F. -/
def PtAt (w : World) (F : Nat → Prop) : Pt → Addr → Prop
  | .mk k q t n o l, a => ∃ p c, (∀ (j : Nat) (u : Value), (pcell (.mk k q t n o l) (.slice p l.length c))[j]? = some u → w.cell? (a.add j) = some u) ∧ l.length ≤ c ∧ (l ≠ [] → ∃ b, p = some b ∧ F b.block ∧ PsAt w F l b)
def PsAt (w : World) (F : Nat → Prop) : List Pt → Addr → Prop
  | [], _ => True
  | x :: r, a => PtAt w F x a ∧ PsAt w F r (a.add 6)
end
/-- A slice of parts. -/
def SlAt (w : World) (F : Nat → Prop) (l : List Pt) (v : Value) : Prop := ∃ p c, v = .slice p l.length c ∧ l.length ≤ c ∧ (l ≠ [] → ∃ b, p = some b ∧ F b.block ∧ PsAt w F l b)
theorem PtAt.out {F : Nat → Prop} {x : Pt} {a : Addr} (h : PtAt w F x a) : ∃ v, (∀ (j : Nat) (u : Value), (pcell x v)[j]? = some u → w.cell? (a.add j) = some u) ∧ SlAt w F x.w v := by
  cases x with
  | mk k q t n o l =>
    simp only [PtAt] at h
    obtain ⟨p, c, h1, h2, h3⟩ := h
    exact ⟨_, h1, p, c, rfl, h2, h3⟩
theorem PtAt.of {F : Nat → Prop} {x : Pt} {a : Addr} {v : Value} (h : ∀ (j : Nat) (u : Value), (pcell x v)[j]? = some u → w.cell? (a.add j) = some u) (hs : SlAt w F x.w v) : PtAt w F x a := by
  cases x with
  | mk k q t n o l =>
    obtain ⟨p, c, rfl, h2, h3⟩ := hs
    simp only [PtAt]
    exact ⟨p, c, h, h2, h3⟩
theorem PsAt.get {F : Nat → Prop} : ∀ {l : List Pt} {a : Addr} {i : Nat} {x : Pt}, PsAt w F l a → l[i]? = some x → PtAt w F x (a.add (i * 6))
  | y :: r, a, 0, x, h, hx => by
    obtain rfl := Option.some.inj hx
    simp only [PsAt] at h
    have e : a.add (0 * 6) = a := by unfold Addr.add; simp
    rw [e]
    exact h.1
  | y :: r, a, i + 1, x, h, hx => by
    simp only [PsAt] at h
    have := PsAt.get (i := i) h.2 (by simpa using hx)
    rw [adds] at this
    rwa [show (i + 1) * 6 = 6 + i * 6 by omega]
theorem PsAt.of {F : Nat → Prop} : ∀ {l : List Pt} {a : Addr}, (∀ i x, l[i]? = some x → PtAt w F x (a.add (i * 6))) → PsAt w F l a
  | [], a, h => by simp only [PsAt]
  | y :: r, a, h => by
    simp only [PsAt]
    refine ⟨?_, PsAt.of fun i x hx => ?_⟩
    · have := h 0 y rfl
      have e : a.add (0 * 6) = a := by unfold Addr.add; simp
      rwa [e] at this
    · rw [adds]
      have := h (i + 1) x (by simpa using hx)
      rwa [show (i + 1) * 6 = 6 + i * 6 by omega] at this
mutual
theorem PtAt.turn {F G : Nat → Prop} {w' : World} (hF : ∀ k, F k → G k) (hw : ∀ a v, (∃ k, F k ∧ a.block = k) → w.cell? a = some v → w'.cell? a = some v) : ∀ {x : Pt} {a : Addr}, PtAt w F x a → F a.block → PtAt w' G x a
  | .mk k q t n o l, a, h, hb => by
    simp only [PtAt] at h ⊢
    obtain ⟨p, c, h1, h2, h3⟩ := h
    refine ⟨p, c, fun j u hu => hw _ _ ⟨_, hb, add_block a j⟩ (h1 j u hu), h2, fun hl => ?_⟩
    obtain ⟨b, rfl, h4, h5⟩ := h3 hl
    exact ⟨b, rfl, hF _ h4, PsAt.turn hF hw h5 h4⟩
theorem PsAt.turn {F G : Nat → Prop} {w' : World} (hF : ∀ k, F k → G k) (hw : ∀ a v, (∃ k, F k ∧ a.block = k) → w.cell? a = some v → w'.cell? a = some v) : ∀ {l : List Pt} {a : Addr}, PsAt w F l a → F a.block → PsAt w' G l a
  | [], a, h, hb => by simp only [PsAt]
  | x :: r, a, h, hb => by
    simp only [PsAt] at h ⊢
    exact ⟨PtAt.turn hF hw h.1 hb, PsAt.turn hF hw h.2 (by rw [add_block]; exact hb)⟩
end
theorem SlAt.turn {F G : Nat → Prop} {w' : World} (hF : ∀ k, F k → G k) (hw : ∀ a v, (∃ k, F k ∧ a.block = k) → w.cell? a = some v → w'.cell? a = some v) {l : List Pt} {v : Value} (h : SlAt w F l v) : SlAt w' G l v := by
  obtain ⟨p, c, rfl, h2, h3⟩ := h
  refine ⟨p, c, rfl, h2, fun hl => ?_⟩
  obtain ⟨b, rfl, h4, h5⟩ := h3 hl
  exact ⟨b, rfl, hF _ h4, PsAt.turn hF hw h5 h4⟩
theorem SlAt.mono {F G : Nat → Prop} (hF : ∀ k, F k → G k) {l : List Pt} {v : Value} (h : SlAt w F l v) : SlAt w G l v := h.turn hF (fun _ _ _ h => h)
theorem SlAt.any {F : Nat → Prop} {l : List Pt} {v : Value} (h : SlAt w F l v) : SlAt w (fun _ => True) l v := h.mono fun _ _ => trivial
theorem mod_cell {S : Nat → Prop} {w' : World} (hm : Mod S w w') {a : Addr} {v : Value} (hn : ¬ S a.block) (h : w.cell? a = some v) : w'.cell? a = some v :=
  (World.cell?_of_block (hm.block _ (World.block_lt_of_cell? _ _ h) hn)).trans h
theorem SlAt.mod {F S : Nat → Prop} {w' : World} {l : List Pt} {v : Value} (h : SlAt w F l v) (hm : Mod S w w') (hS : ∀ k, F k → ¬ S k) : SlAt w' F l v :=
  h.turn (fun _ h => h) fun a v ⟨k, hk, e⟩ hc => mod_cell hm (by rw [e]; exact hS k hk) hc
theorem SlAt.still {F : Nat → Prop} {w' : World} {l : List Pt} {v : Value} (h : SlAt w F l v) (hm : Still w w') : SlAt w' F l v := h.mod hm fun _ _ h => h
theorem SlAt.nil (w : World) (F : Nat → Prop) (p : Option Addr) (c : Nat) : SlAt w F [] (.slice p 0 c) := ⟨p, c, rfl, Nat.zero_le _, fun h => absurd rfl h⟩
/-- All blocks of what stands are there. -/
theorem SlAt.here {F : Nat → Prop} {l : List Pt} {v : Value} (h : SlAt w F l v) : SlAt w (fun k => F k ∧ k < w.heap.size) l v := by
  have key : ∀ n, ∀ l : List Pt, SizeOf.sizeOf l < n → ∀ b, PsAt w F l b → F b.block → l ≠ [] → (b.block < w.heap.size ∧ PsAt w (fun k => F k ∧ k < w.heap.size) l b) := by
    intro n
    induction n with
    | zero => intro l h; omega
    | succ n ih =>
      intro l hl b hp hb hne
      have cell0 : b.block < w.heap.size := by
        obtain ⟨x, r, rfl⟩ := List.exists_cons_of_ne_nil hne
        simp only [PsAt] at hp
        obtain ⟨v, hc, _⟩ := hp.1.out
        have := World.block_lt_of_cell? _ _ (hc 0 _ rfl)
        rwa [add_block] at this
      refine ⟨cell0, PsAt.of fun i x hx => ?_⟩
      obtain ⟨v, hc, hs⟩ := (hp.get hx).out
      refine PtAt.of hc ?_
      obtain ⟨p, c, rfl, h2, h3⟩ := hs
      refine ⟨p, c, rfl, h2, fun hl2 => ?_⟩
      obtain ⟨b2, rfl, h4, h5⟩ := h3 hl2
      have hm := List.sizeOf_lt_of_mem (List.mem_of_getElem? hx)
      have hx2 : SizeOf.sizeOf x.w < SizeOf.sizeOf x := by cases x; simp only [Pt.w, Pt.mk.sizeOf_spec]; omega
      have := ih x.w (by omega) b2 h5 h4 hl2
      exact ⟨b2, rfl, ⟨h4, this.1⟩, this.2⟩
  obtain ⟨p, c, rfl, h2, h3⟩ := h
  refine ⟨p, c, rfl, h2, fun hl => ?_⟩
  obtain ⟨b, rfl, h4, h5⟩ := h3 hl
  have := key _ l (Nat.lt_succ_self _) b h5 h4 hl
  exact ⟨b, rfl, ⟨h4, this.1⟩, this.2⟩
/-- The element that a slice of parts has at i. -/
theorem SlAt.get {F : Nat → Prop} {l : List Pt} {p : Option Addr} {n c : Nat} (h : SlAt w F l (.slice p n c)) {i : Nat} {x : Pt} (hx : l[i]? = some x) :
    ∃ b v, p = some b ∧ F b.block ∧ (∀ (j : Nat) (u : Value), (pcell x v)[j]? = some u → w.cell? ((b.add (i * 6)).add j) = some u) ∧ SlAt w F x.w v := by
  obtain ⟨p', c', he, h2, h3⟩ := h
  injection he with e1 e2 e3
  subst e1 e2 e3
  have hl : l ≠ [] := by rintro rfl; cases hx
  obtain ⟨b, rfl, h4, h5⟩ := h3 hl
  obtain ⟨v, h6, h7⟩ := (h5.get hx).out
  exact ⟨b, v, rfl, h4, h6, h7⟩
theorem SlAt.len {F : Nat → Prop} {l : List Pt} {p : Option Addr} {n c : Nat} (h : SlAt w F l (.slice p n c)) : n = l.length ∧ l.length ≤ c := by
  obtain ⟨p', c', he, h2, h3⟩ := h
  injection he with e1 e2 e3
  subst e3
  exact ⟨e2, h2⟩
theorem SlAt.form {F : Nat → Prop} {l : List Pt} {v : Value} (h : SlAt w F l v) : ∃ p c, v = .slice p l.length c := by
  obtain ⟨p, c, he, _⟩ := h
  exact ⟨p, c, he⟩

/-! ### The cells of parts -/
def Cs (w : World) (F : Nat → Prop) : List Pt → List Value → Prop
  | [], xs => xs = []
  | x :: r, xs => ∃ v ys, xs = pcell x v ++ ys ∧ SlAt w F x.w v ∧ Cs w F r ys
theorem Cs.len {F : Nat → Prop} : ∀ {l : List Pt} {xs : List Value}, Cs w F l xs → xs.length = l.length * 6
  | [], xs, h => by rw [show xs = [] from h]; rfl
  | x :: r, xs, ⟨v, ys, h1, h2, h3⟩ => by
    have := h3.len
    rw [h1]
    simp only [List.length_append, pcell, List.length_cons, List.length_nil, this]
    omega
theorem pcell_one {x : Pt} {v : Value} (hv : v.oneCell' = true) : ∀ u ∈ pcell x v, u.oneCell' = true := by
  intro u hu
  simp only [pcell, List.mem_cons, List.not_mem_nil, or_false] at hu
  rcases hu with rfl | rfl | rfl | rfl | rfl | rfl <;> first | rfl | exact hv
theorem SlAt.one {F : Nat → Prop} {l : List Pt} {v : Value} (h : SlAt w F l v) : v.oneCell' = true := by
  obtain ⟨p, c, rfl, _⟩ := h
  rfl
theorem Cs.one {F : Nat → Prop} : ∀ {l : List Pt} {xs : List Value}, Cs w F l xs → ∀ u ∈ xs, u.oneCell' = true
  | [], xs, h => by rw [show xs = [] from h]; simp
  | x :: r, xs, ⟨v, ys, h1, h2, h3⟩ => by
    intro u hu
    rw [h1] at hu
    rcases List.mem_append.1 hu with hu | hu
    · exact pcell_one h2.one u hu
    · exact h3.one u hu
theorem Cs.turn {F G : Nat → Prop} {w' : World} (hf : ∀ {l : List Pt} {v : Value}, SlAt w F l v → SlAt w' G l v) : ∀ {l : List Pt} {xs : List Value}, Cs w F l xs → Cs w' G l xs
  | [], _xs, h => h
  | x :: r, _xs, ⟨v, ys, h1, h2, h3⟩ => ⟨v, ys, h1, hf h2, h3.turn hf⟩
theorem Cs.append {F : Nat → Prop} : ∀ {l m : List Pt} {xs ys : List Value}, Cs w F l xs → Cs w F m ys → Cs w F (l ++ m) (xs ++ ys)
  | [], m, xs, ys, h, k => by rw [show xs = [] from h]; exact k
  | x :: r, m, xs, ys, ⟨v, zs, h1, h2, h3⟩, k => ⟨v, zs ++ ys, by rw [h1, List.append_assoc], h2, h3.append k⟩
theorem Cs.snoc {F : Nat → Prop} {l : List Pt} {xs : List Value} {x : Pt} {v : Value} (h : Cs w F l xs) (hv : SlAt w F x.w v) : Cs w F (l ++ [x]) (xs ++ pcell x v) :=
  h.append ⟨v, [], by simp, hv, rfl⟩
theorem Cs.split {F : Nat → Prop} : ∀ {l m : List Pt} {xs : List Value}, Cs w F (l ++ m) xs → ∃ ys zs, xs = ys ++ zs ∧ Cs w F l ys ∧ Cs w F m zs
  | [], m, xs, h => ⟨[], xs, rfl, rfl, h⟩
  | x :: r, m, xs, h => by
    obtain ⟨v, us, h1, h2, h3⟩ : ∃ v us, xs = pcell x v ++ us ∧ SlAt w F x.w v ∧ Cs w F (r ++ m) us := h
    obtain ⟨ys, zs, h4, h5, h6⟩ := h3.split
    exact ⟨pcell x v ++ ys, zs, by rw [h1, h4, List.append_assoc], ⟨v, ys, rfl, h2, h5⟩, h6⟩
theorem Cs.last {F : Nat → Prop} {l : List Pt} {x : Pt} {xs : List Value} (h : Cs w F (l ++ [x]) xs) : ∃ ys v, xs = ys ++ pcell x v ∧ Cs w F l ys ∧ SlAt w F x.w v := by
  obtain ⟨ys, zs, h1, h2, v, us, h3, h4, h5⟩ := h.split
  have h5 : us = [] := h5
  subst h5
  exact ⟨ys, v, by rw [h1, h3, List.append_nil], h2, h4⟩
theorem Cs.at {F : Nat → Prop} : ∀ {l : List Pt} {xs : List Value} {a : Addr}, Cs w F l xs → (∀ (j : Nat) (u : Value), xs[j]? = some u → w.cell? (a.add j) = some u) → PsAt w F l a
  | [], xs, a, h, hc => by simp only [PsAt]
  | x :: r, xs, a, ⟨v, ys, h1, h2, h3⟩, hc => by
    simp only [PsAt]
    have e : (pcell x v).length = 6 := rfl
    refine ⟨PtAt.of (fun j u hu => hc j u ?_) h2, h3.at fun j u hu => ?_⟩
    · rw [h1, List.getElem?_append_left]
      · exact hu
      · exact (List.getElem?_eq_some_iff.1 hu).1
    · rw [adds]
      refine hc _ u ?_
      rw [h1, List.getElem?_append_right (by rw [e]; omega), e, Nat.add_sub_cancel_left]
      exact hu
theorem Cs.to {F : Nat → Prop} {l : List Pt} : ∀ {a : Addr}, PsAt w F l a → ∃ xs, Cs w F l xs ∧ ∀ (j : Nat) (u : Value), xs[j]? = some u → w.cell? (a.add j) = some u := by
  induction l with
  | nil => intro a _; exact ⟨[], rfl, fun j u hu => by simp at hu⟩
  | cons x r ih =>
    intro a h
    simp only [PsAt] at h
    obtain ⟨v, h1, h2⟩ := h.1.out
    obtain ⟨xs, h3, h4⟩ := ih h.2
    refine ⟨pcell x v ++ xs, ⟨v, xs, rfl, h2, h3⟩, fun j u hu => ?_⟩
    have e : (pcell x v).length = 6 := rfl
    by_cases hj : j < 6
    · rw [List.getElem?_append_left (by rw [e]; exact hj)] at hu
      exact h1 j u hu
    · rw [List.getElem?_append_right (by rw [e]; omega), e] at hu
      have := h4 _ u hu
      rwa [adds, show 6 + (j - 6) = j by omega] at this

/-! ### A slice of parts that owns its row -/
def OutAt (w : World) (B : Nat) (l : List Pt) (v : Value) : Prop := ∃ p c xs, v = .slice p l.length c ∧ Owns w B 39 6 v l.length xs ∧ Cs w (fun k => B ≤ k ∧ k < w.heap.size ∧ v.ownBlock ≠ some k) l xs
theorem OutAt.nil (w : World) (B : Nat) : OutAt w B [] (.slice none 0 0) := ⟨none, 0, [], rfl, Owns.nil _ _ _ _, rfl⟩
theorem Owns.cap {B : Nat} {e : TypeId} {size n : Nat} {v : Value} {xs : List Value} (h : Owns w B e size v n xs) : ∃ p c, v = .slice p n c ∧ n ≤ c := by
  rcases h.2 with ⟨rfl, rfl⟩ | ⟨g, cap, cur, rfl, _, _, hc, _⟩
  · exact ⟨_, _, rfl, Nat.le_refl _⟩
  · exact ⟨_, _, rfl, hc⟩
theorem OutAt.sl {B : Nat} {l : List Pt} {v : Value} (h : OutAt w B l v) : SlAt w (fun k => B ≤ k ∧ k < w.heap.size) l v := by
  obtain ⟨p, c, xs, rfl, ho, hc⟩ := h
  obtain ⟨p', c', he, hle⟩ := ho.cap
  injection he with _ _ e3
  subst e3
  refine ⟨p, c, rfl, hle, fun hl => ?_⟩
  have hn : 0 < l.length := List.length_pos_iff.2 hl
  obtain ⟨g, cap, he, hB, hg, _, hcell⟩ := ho.ownAddr hn
  injection he with e1 e2 e3
  subst e1
  refine ⟨_, rfl, ⟨hB, hg⟩, (hc.turn fun h => h.mono fun k hk => ⟨hk.1, hk.2.1⟩).at fun j u hu => ?_⟩
  rw [add_row, Nat.zero_add]
  exact hcell j u hu
theorem OutAt.mod {S : Nat → Prop} {w' : World} {B : Nat} {l : List Pt} {v : Value} (h : OutAt w B l v) (hm : Mod S w w') (hS : ∀ k, B ≤ k → k < w.heap.size → ¬ S k) : OutAt w' B l v := by
  obtain ⟨p, c, xs, rfl, ho, hc⟩ := h
  refine ⟨p, c, xs, rfl, ho.mod hm fun k hk => hS k (ho.lt k hk).1 (ho.lt k hk).2, hc.turn fun h => (h.mod hm fun k hk => hS k hk.1 hk.2.1).mono fun k hk => ⟨hk.1, Nat.lt_of_lt_of_le hk.2.1 hm.size, hk.2.2⟩⟩
theorem OutAt.still {w' : World} {B : Nat} {l : List Pt} {v : Value} (h : OutAt w B l v) (hm : Still w w') : OutAt w' B l v := h.mod hm fun _ _ _ h => h
/-- Rows of another type, turned alone, leave parts as they are. -/
def NoPart (w : World) (S : Nat → Prop) : Prop := ∀ k, S k → ∃ t cs, Row w k t cs ∧ t ≠ 39
end Go.Proofs.YtckcdbkggaoomaaDoor
