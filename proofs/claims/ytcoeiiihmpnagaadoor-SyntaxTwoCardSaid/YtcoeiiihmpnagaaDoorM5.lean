/- Texts of one proof, one behind the other. Conditions: as each theorem names them. -/
import Derived.Test.YtcoeiiihmpnagaaDoorSyTok
namespace Go.Proofs.YtcoeiiihmpnagaaDoor
open Go.RowKit Vc
variable {w : World} {α β : Type}

/-- A slice that owns its row, among others: all own rows are of X, none is gn; what stands in it leads elsewhere. -/
def Enc.OutX (e : Enc α) (w : World) (B : Nat) (t : TypeId) (X : Nat → Prop) (gn : Nat) (l : List α) (v : Value) : Prop := ∃ p c xs, v = .slice p l.length c ∧ Owns w B t e.sz v l.length xs ∧ (∀ k, v.ownBlock = some k → X k ∧ k ≠ gn) ∧ e.Cs w (fun k => B ≤ k ∧ k < w.heap.size ∧ ¬ X k) l xs
theorem Enc.OutX.nil (e : Enc α) (w : World) (B : Nat) (t : TypeId) (X : Nat → Prop) (gn : Nat) : e.OutX w B t X gn [] (.slice none 0 0) := ⟨none, 0, [], rfl, Owns.nil _ _ _ _, fun k hk => (by cases hk), rfl⟩
section
variable {e : Enc α} {B gn : Nat} {t : TypeId} {X X' : Nat → Prop} {l : List α} {v : Value}
theorem Enc.OutX.form (h : e.OutX w B t X gn l v) : ∃ p c, v = .slice p l.length c := by
  obtain ⟨p, c, _, he, _⟩ := h
  exact ⟨p, c, he⟩
theorem Enc.OutX.at (h : e.OutX w B t X gn l v) : e.At w (fun k => B ≤ k ∧ k < w.heap.size) l v := by
  obtain ⟨p, c, xs, rfl, ho, _, hc⟩ := h
  obtain ⟨p', c', he, hle⟩ := ho.cap
  injection he with _ _ e3
  subst e3
  refine ⟨p, c, rfl, hle, fun hl => ?_⟩
  have hn : 0 < l.length := List.length_pos_iff.2 hl
  obtain ⟨g, cap, he, hB, hg, _, hcell⟩ := ho.ownAddr hn
  injection he with e1 e2 e3
  subst e1
  refine ⟨_, xs, rfl, ⟨hB, hg⟩, hc.turn (fun k hk => ⟨hk.1, hk.2.1⟩) (fun _ _ _ h => h), fun j u hu => ?_⟩
  rw [add_row, Nat.zero_add]
  exact hcell j u hu
theorem Enc.OutX.mod {S : Nat → Prop} {w' : World} (h : e.OutX w B t X gn l v) (hm : Mod S w w') (hS : ∀ k, B ≤ k → k < w.heap.size → S k → X k ∧ v.ownBlock ≠ some k) (hX : ∀ k, X k → X' k) (hX' : ∀ k, X' k → X k ∨ w.heap.size ≤ k) : e.OutX w' B t X' gn l v := by
  obtain ⟨p, c, xs, rfl, ho, hg, hc⟩ := h
  refine ⟨p, c, xs, rfl, ho.mod hm fun k hk hs => (hS k (ho.lt k hk).1 (ho.lt k hk).2 hs).2 hk, fun k hk => ⟨hX k (hg k hk).1, (hg k hk).2⟩, hc.turn (fun k hk => ⟨hk.1, Nat.lt_of_lt_of_le hk.2.1 hm.size, fun hx => ?_⟩) fun a v ⟨k, hk, ea⟩ hcell => mod_cell hm (by rw [ea]; exact fun hs => hk.2.2 (hS k hk.1 hk.2.1 hs).1) hcell⟩
  rcases hX' k hx with hx | hx
  · exact hk.2.2 hx
  · omega
/-- One thing more. -/
theorem Enc.OutX.push {bytes : Nat} {p : Option Addr} {n c : Nat} {x : α} {cs : List Value} {K : Option Addr → Nat → World → Prop} {Sw : World → Prop} (ho : e.OutX w B t X gn l (.slice p n c)) (hB : B ≤ w.heap.size) (_hXs : ∀ k, X k → k < w.heap.size) (hgn : gn < w.heap.size)
    (hS : ∀ w1, Still w w1 → Sw w1) (hx : e.E w (fun k => B ≤ k ∧ k < w.heap.size ∧ ¬ X k) x cs) (hs : n + 1 ≤ 9223372036854775807) (hb : (n + 1) * bytes ≤ 140737488355328)
    (h : ∀ p' c' w', e.OutX w' B t (fun k => X k ∨ (Value.slice p' (n + 1) c').ownBlock = some k) gn (l ++ [x]) (.slice p' (n + 1) c') → Mod (fun k => (Value.slice p n c).ownBlock = some k) w w' → (∀ k, (Value.slice p' (n + 1) c').ownBlock = some k → X k ∨ w.heap.size ≤ k) → (∀ k, (Value.slice p' (n + 1) c').ownBlock = some k → k < w'.heap.size) → K p' c' w') :
    letW (w.alloc (.cells ⟨cs⟩ t)) (fun w2 => Sw w2 ∧ appK w2 t e.sz bytes p n c (some (Addr.mk w.heap.size 0 none)) 1 K) := by
  obtain ⟨p0, c0, xs, he, ho, hg, hc⟩ := ho
  injection he with e1 e2 e3
  subst e1 e2 e3
  have hl := e.len hx
  refine allocK fun w1 hr hst hz => ⟨hS w1 hst, ?_⟩
  refine appK_push (ho.still hst) (by omega) cs (by omega) (e.one hx) (fun _ => ⟨_, rfl, fun j u hu => ?_⟩) hs hb fun p' c' w' ho' hm hk => ?_
  · rw [add_row, Nat.zero_add]
    exact hr.cellv (by simpa using hu)
  have hz' := hm.size
  have hown : ∀ k, (Value.slice p' (l.length + 1) c').ownBlock = some k → (X k ∧ k ≠ gn) ∨ w.heap.size + 1 = k := by
    intro k hk'
    rcases hk.own (n := l.length) with hk | hk
    · exact .inl (hg k (hk.symm.trans hk'))
    · rw [hk'] at hk
      have := Option.some.inj hk
      exact .inr (by omega)
  refine h p' c' w' ⟨p', c', xs ++ cs, by rw [List.length_append]; rfl, by rw [List.length_append]; exact ho', fun k hk' => ⟨.inr hk', ?_⟩, ?_⟩ (Mod.trans hst hm (fun _ h => h.elim) (fun _ _ h => h)) (fun k hk' => ?_) fun k hk' => (ho'.lt k hk').2
  · rcases hown k hk' with h | h
    · exact h.2
    · omega
  · refine (hc.append (Enc.Cs.single hx)).turn (fun k hk => ⟨hk.1, by omega, fun hx => ?_⟩) fun a v ⟨k, hk, ea⟩ hcell => mod_cell hm (by rw [ea]; exact fun h => hk.2.2 (hg k h).1) (hst.cell hcell)
    rcases hx with hx | hx
    · exact hk.2.2 hx
    · rcases hown k hx with h | h
      · exact hk.2.2 h.1
      · omega
  · rcases hown k hk' with h | h
    · exact .inl h.1
    · exact .inr (by omega)
/-- A row that is known whole. -/
theorem Enc.OutX.row {g : Nat} {xs : List Value} (hr : Row w g t ⟨xs⟩) (hB : B ≤ g) (hg : g ≠ gn) (hX : X g) (hm : l.length ≤ 1000000) (hc : e.Cs w (fun k => B ≤ k ∧ k < w.heap.size ∧ ¬ X k) l xs) : e.OutX w B t X gn l (.slice (some ⟨g, 0, none⟩) l.length l.length) := by
  have hl := hc.len
  refine ⟨_, _, xs, rfl, ⟨hl, .inr ⟨g, l.length, ⟨xs⟩, rfl, hB, hr, Nat.le_refl _, Nat.le_trans hm (by decide), hl, ?_⟩⟩, fun k hk => ?_, hc⟩
  · rw [← hl]
    exact List.take_length
  · obtain rfl := Option.some.inj hk
    exact ⟨hX, hg⟩
end
theorem Enc.OutX.apart {e : Enc α} {f : Enc β} {B gn : Nat} {t u : TypeId} {X : Nat → Prop} {l : List α} {m : List β} {v v' : Value} (h : e.OutX w B t X gn l v) (h' : f.OutX w B u X gn m v') (hne : t ≠ u) {k : Nat} (hk : v.ownBlock = some k) : v'.ownBlock ≠ some k := by
  obtain ⟨_, _, _, _, ho, _⟩ := h
  obtain ⟨_, _, _, _, ho', _⟩ := h'
  exact ho.apart ho' hne hk

/-- A node's box at gn; its lists stand in blocks behind B. -/
structure NB (w0 w : World) (g gn B : Nat) (X : Nat → Prop) (x : Nd) (vw va vr vo vk : Value) : Prop where
  row : Row w gn 32 ⟨ncell x vw va vr vo vk⟩
  only : Only g w0 w
  hg : g < w0.heap.size
  hB : w0.heap.size ≤ B
  hgn : B ≤ gn
  xs : ∀ k, X k → k < w.heap.size ∧ B ≤ k
  xg : X gn
  ow : wsE.OutX w B 49 X gn x.ws vw
  oa : nsE.OutX w B 51 X gn x.as va
  ord : nsE.OutX w B 54 X gn x.rs vr
  oo : osE.OutX w B 9 X gn x.os vo
  ok : ndE.OutX w B 32 X gn x.ks vk
section
variable {w0 w1 w' : World} {g gn B : Nat} {X : Nat → Prop} {x : Nd} {vw va vr vo vk : Value}
/-- What turns no box of these. -/
theorem NB.mod {S : Nat → Prop} (h : NB w0 w g gn B X x vw va vr vo vk) (hm : Mod S w w') (hS : ∀ k, S k → k = g ∨ w.heap.size ≤ k) : NB w0 w' g gn B X x vw va vr vo vk := by
  have hz := hm.size
  have key : ∀ k, B ≤ k → k < w.heap.size → S k → False := fun k h1 h2 h3 => by
    have := h.hg
    have := h.hB
    rcases hS k h3 with h4 | h4 <;> omega
  have n1 : ¬ S gn := fun hs => key gn h.hgn (h.xs _ h.xg).1 hs
  refine ⟨h.row.mod hm n1, Mod.trans h.only hm (fun _ h => h) (fun i hi hs => ?_), h.hg, h.hB, h.hgn, fun k hk => ⟨Nat.lt_of_lt_of_le (h.xs k hk).1 hz, (h.xs k hk).2⟩, h.xg, ?_, ?_, ?_, ?_, ?_⟩
  · have := h.only.size
    rcases hS _ hs with h4 | h4 <;> omega
  · exact h.ow.mod hm (fun k h1 h2 h3 => (key k h1 h2 h3).elim) (fun _ h => h) (fun _ h => .inl h)
  · exact h.oa.mod hm (fun k h1 h2 h3 => (key k h1 h2 h3).elim) (fun _ h => h) (fun _ h => .inl h)
  · exact h.ord.mod hm (fun k h1 h2 h3 => (key k h1 h2 h3).elim) (fun _ h => h) (fun _ h => .inl h)
  · exact h.oo.mod hm (fun k h1 h2 h3 => (key k h1 h2 h3).elim) (fun _ h => h) (fun _ h => .inl h)
  · exact h.ok.mod hm (fun k h1 h2 h3 => (key k h1 h2 h3).elim) (fun _ h => h) (fun _ h => .inl h)
theorem NB.on (h : NB w0 w g gn B X x vw va vr vo vk) (hm : Only g w w') : NB w0 w' g gn B X x vw va vr vo vk := h.mod hm fun _ h => .inl h
theorem NB.still (h : NB w0 w g gn B X x vw va vr vo vk) (hm : Still w w') : NB w0 w' g gn B X x vw va vr vo vk := h.mod hm fun _ h => h.elim
/-- The box's own cells turned. -/
theorem NB.put (h : NB w0 w g gn B X x vw va vr vo vk) (hm : Mod (fun k => k = gn) w w') {y : Nd} {uw ua ur uo uk : Value} (hr : Row w' gn 32 ⟨ncell y uw ua ur uo uk⟩) (hw : wsE.OutX w' B 49 X gn y.ws uw ∨ y.ws = x.ws ∧ uw = vw) (ha : y.as = x.as ∧ ua = va) (hrr : y.rs = x.rs ∧ ur = vr) (ho : osE.OutX w' B 9 X gn y.os uo ∨ y.os = x.os ∧ uo = vo) (hk : ndE.OutX w' B 32 X gn y.ks uk ∨ y.ks = x.ks ∧ uk = vk) : NB w0 w' g gn B X y uw ua ur uo uk := by
  have hz := hm.size
  have own : ∀ {v : Value}, (∀ k, v.ownBlock = some k → X k ∧ k ≠ gn) → v.ownBlock ≠ some gn := fun hv he => (hv gn he).2 rfl
  refine ⟨hr, Mod.trans h.only hm (fun _ h => h) (fun i hi e => ?_), h.hg, h.hB, h.hgn, fun k hk => ⟨Nat.lt_of_lt_of_le (h.xs k hk).1 hz, (h.xs k hk).2⟩, h.xg, ?_, ?_, ?_, ?_, ?_⟩
  · have := h.hgn
    have := h.hB
    omega
  · rcases hw with hw | hw
    · exact hw
    rw [hw.1, hw.2]
    obtain ⟨_, _, _, _, _, hg, _⟩ := id h.ow
    exact h.ow.mod hm (fun k _ _ e => by subst e; exact ⟨h.xg, own hg⟩) (fun _ h => h) (fun _ h => .inl h)
  · rw [ha.1, ha.2]
    obtain ⟨_, _, _, _, _, hg, _⟩ := id h.oa
    exact h.oa.mod hm (fun k _ _ e => by subst e; exact ⟨h.xg, own hg⟩) (fun _ h => h) (fun _ h => .inl h)
  · rw [hrr.1, hrr.2]
    obtain ⟨_, _, _, _, _, hg, _⟩ := id h.ord
    exact h.ord.mod hm (fun k _ _ e => by subst e; exact ⟨h.xg, own hg⟩) (fun _ h => h) (fun _ h => .inl h)
  · rcases ho with ho | ho
    · exact ho
    rw [ho.1, ho.2]
    obtain ⟨_, _, _, _, _, hg, _⟩ := id h.oo
    exact h.oo.mod hm (fun k _ _ e => by subst e; exact ⟨h.xg, own hg⟩) (fun _ h => h) (fun _ h => .inl h)
  · rcases hk with hk | hk
    · exact hk
    rw [hk.1, hk.2]
    obtain ⟨_, _, _, _, _, hg, _⟩ := id h.ok
    exact h.ok.mod hm (fun k _ _ e => by subst e; exact ⟨h.xg, own hg⟩) (fun _ h => h) (fun _ h => .inl h)
/-- More blocks to keep off. -/
theorem NB.grow {Y : Nat → Prop} (h : NB w0 w g gn B X x vw va vr vo vk) (_hY : ∀ k, Y k → X k ∨ (k < w.heap.size ∧ B ≤ k)) (hX : ∀ k, X k → Y k) (hc : ∀ k, Y k → ¬ X k → False) : NB w0 w g gn B Y x vw va vr vo vk := by
  have e : X = Y := funext fun k => propext ⟨hX k, fun hy => Classical.byContradiction fun hn => hc k hy hn⟩
  rw [← e]
  exact h
theorem NB.nde (h : NB w0 w g gn B X x vw va vr vo vk) : NdE w (fun k => B ≤ k ∧ k < w.heap.size) x (ncell x vw va vr vo vk) :=
  NdE.of h.ow.at h.oa.at h.ord.at h.oo.at h.ok.at
/-- A box that holds a node whose lists stand elsewhere. -/
theorem NB.mk0 {x : Nd} (hr : Row w gn 32 ⟨ncell x (.slice none 0 0) (.slice none 0 0) (.slice none 0 0) (.slice none 0 0) (.slice none 0 0)⟩) (ho : Only g w0 w) (hg : g < w0.heap.size) (hB : w0.heap.size ≤ B) (hgn : B ≤ gn) (hx : x.ws = [] ∧ x.as = [] ∧ x.rs = [] ∧ x.os = [] ∧ x.ks = []) :
    NB w0 w g gn B (fun k => k = gn) x (.slice none 0 0) (.slice none 0 0) (.slice none 0 0) (.slice none 0 0) (.slice none 0 0) := by
  obtain ⟨h1, h2, h3, h4, h5⟩ := hx
  refine ⟨hr, ho, hg, hB, hgn, fun k hk => by subst hk; exact ⟨hr.lt, hgn⟩, rfl, ?_, ?_, ?_, ?_, ?_⟩
  · rw [h1]; exact Enc.OutX.nil _ _ _ _ _ _
  · rw [h2]; exact Enc.OutX.nil _ _ _ _ _ _
  · rw [h3]; exact Enc.OutX.nil _ _ _ _ _ _
  · rw [h4]; exact Enc.OutX.nil _ _ _ _ _ _
  · rw [h5]; exact Enc.OutX.nil _ _ _ _ _ _
/-- A box, and a row of its kids. -/
theorem NB.mkK {x y : Nd} {b : Nat} {cs : List Value} (hr : Row w gn 32 ⟨ncell x (.slice none 0 0) (.slice none 0 0) (.slice none 0 0) (.slice none 0 0) (.slice (some ⟨b, 0, none⟩) 1 1)⟩) (hb : Row w b 32 ⟨cs⟩) (hc : NdE w (fun k => B ≤ k ∧ k < w.heap.size ∧ k ≠ gn ∧ k ≠ b) y cs) (ho : Only g w0 w) (hg : g < w0.heap.size) (hB : w0.heap.size ≤ B) (hgn : B ≤ gn) (hbB : B ≤ b) (hne : b ≠ gn) (hx : x.ws = [] ∧ x.as = [] ∧ x.rs = [] ∧ x.os = [] ∧ x.ks = [y]) :
    NB w0 w g gn B (fun k => k = gn ∨ k = b) x (.slice none 0 0) (.slice none 0 0) (.slice none 0 0) (.slice none 0 0) (.slice (some ⟨b, 0, none⟩) 1 1) := by
  obtain ⟨h1, h2, h3, h4, h5⟩ := hx
  refine ⟨hr, ho, hg, hB, hgn, fun k hk => ?_, .inl rfl, ?_, ?_, ?_, ?_, ?_⟩
  · rcases hk with rfl | rfl
    · exact ⟨hr.lt, hgn⟩
    · exact ⟨hb.lt, hbB⟩
  · rw [h1]; exact Enc.OutX.nil _ _ _ _ _ _
  · rw [h2]; exact Enc.OutX.nil _ _ _ _ _ _
  · rw [h3]; exact Enc.OutX.nil _ _ _ _ _ _
  · rw [h4]; exact Enc.OutX.nil _ _ _ _ _ _
  · rw [h5]
    exact Enc.OutX.row (l := [y]) hb hbB hne (.inr rfl) (show 1 ≤ 1000000 by decide) (Enc.Cs.single (hc.mono fun k hk => ⟨hk.1, hk.2.1, fun h => h.elim hk.2.2.1 hk.2.2.2⟩))
end
/-- A node's box, ahead of it an empty one for the answer. -/
abbrev zcell : List Value := ncell (.mk 0 false [] [] [] [] [] []) (.slice none 0 0) (.slice none 0 0) (.slice none 0 0) (.slice none 0 0) (.slice none 0 0)
def NExit (gn gr : Nat) (w : World) (R : Ending → World → Prop) : Prop :=
  ∃ vKind : Int, ∃ vNot : Bool, ∃ vName : List UInt8, ∃ (vWords : Option Addr) (vWordsL vWordsC : Nat), ∃ (vAssigns : Option Addr) (vAssignsL vAssignsC : Nat), ∃ (vRedirs : Option Addr) (vRedirsL vRedirsC : Nat), ∃ (vOps : Option Addr) (vOpsL vOpsC : Nat), ∃ (vKids : Option Addr) (vKidsL vKidsC : Nat), w.cell? (Addr.mk gn 0 none) = some (.int .i64 vKind) ∧ w.cell? (Addr.mk gn 1 none) = some (.bool vNot) ∧ w.cell? (Addr.mk gn 2 none) = some (.string (S vName)) ∧ w.cell? (Addr.mk gn 3 none) = some (.slice vWords vWordsL vWordsC) ∧ w.cell? (Addr.mk gn 4 none) = some (.slice vAssigns vAssignsL vAssignsC) ∧ w.cell? (Addr.mk gn 5 none) = some (.slice vRedirs vRedirsL vRedirsC) ∧ w.cell? (Addr.mk gn 6 none) = some (.slice vOps vOpsL vOpsC) ∧ w.cell? (Addr.mk gn 7 none) = some (.slice vKids vKidsL vKidsC) ∧ stCells (Addr.mk gr 0 none) (fun (w7 : World) => ∃ vKind1 : Int, ∃ vNot1 : Bool, ∃ vName1 : List UInt8, ∃ (vWords1 : Option Addr) (vWordsL1 vWordsC1 : Nat), ∃ (vAssigns1 : Option Addr) (vAssignsL1 vAssignsC1 : Nat), ∃ (vRedirs1 : Option Addr) (vRedirsL1 vRedirsC1 : Nat), ∃ (vOps1 : Option Addr) (vOpsL1 vOpsC1 : Nat), ∃ (vKids1 : Option Addr) (vKidsL1 vKidsC1 : Nat), w7.cell? (Addr.mk gr 0 none) = some (.int .i64 vKind1) ∧ w7.cell? (Addr.mk gr 1 none) = some (.bool vNot1) ∧ w7.cell? (Addr.mk gr 2 none) = some (.string (S vName1)) ∧ w7.cell? (Addr.mk gr 3 none) = some (.slice vWords1 vWordsL1 vWordsC1) ∧ w7.cell? (Addr.mk gr 4 none) = some (.slice vAssigns1 vAssignsL1 vAssignsC1) ∧ w7.cell? (Addr.mk gr 5 none) = some (.slice vRedirs1 vRedirsL1 vRedirsC1) ∧ w7.cell? (Addr.mk gr 6 none) = some (.slice vOps1 vOpsL1 vOpsC1) ∧ w7.cell? (Addr.mk gr 7 none) = some (.slice vKids1 vKidsL1 vKidsC1) ∧ R (.returned (.agg #[(.int .i64 vKind1), (.bool vNot1), (.string (S vName1)), (.slice vWords1 vWordsL1 vWordsC1), (.slice vAssigns1 vAssignsL1 vAssignsC1), (.slice vRedirs1 vRedirsL1 vRedirsC1), (.slice vOps1 vOpsL1 vOpsC1), (.slice vKids1 vKidsL1 vKidsC1)])) w7) 0 [(.int .i64 vKind), (.bool vNot), (.string (S vName)), (.slice vWords vWordsL vWordsC), (.slice vAssigns vAssignsL vAssignsC), (.slice vRedirs vRedirsL vRedirsC), (.slice vOps vOpsL vOpsC), (.slice vKids vKidsL vKidsC)] w
theorem nExit_spec {w0 : World} {g gn B : Nat} {X : Nat → Prop} {x : Nd} {vw va vr vo vk : Value} {R : Ending → World → Prop} (h : NB w0 w g gn B X x vw va vr vo vk) (hres : Row w w0.heap.size 32 ⟨zcell⟩) (hB : w0.heap.size < B)
    (hR : ∀ w' cs, Mod (fun k => k = w0.heap.size) w w' → Only g w0 w' → NdE w' (fun k => w0.heap.size ≤ k ∧ k < w'.heap.size) x cs → R (.returned (.agg ⟨cs⟩)) w') : NExit gn w0.heap.size w R := by
  have hn := h.nde
  obtain ⟨pw, cw, rfl⟩ := h.ow.form
  obtain ⟨pa, ca, rfl⟩ := h.oa.form
  obtain ⟨pr, cr, rfl⟩ := h.ord.form
  obtain ⟨po, co, rfl⟩ := h.oo.form
  obtain ⟨pk, ck, rfl⟩ := h.ok.form
  have hr := h.row
  refine ⟨_, _, _, _, _, _, _, _, _, _, _, _, _, _, _, _, _, _, hr.lget rfl, hr.lget rfl, hr.lget rfl, hr.lget rfl, hr.lget rfl, hr.lget rfl, hr.lget rfl, hr.lget rfl, stK hres (by simp) (by simp [Value.oneCell']) fun w' r' m' z' => ?_⟩
  refine ⟨_, _, _, _, _, _, _, _, _, _, _, _, _, _, _, _, _, _, r'.lget rfl, r'.lget rfl, r'.lget rfl, r'.lget rfl, r'.lget rfl, r'.lget rfl, r'.lget rfl, r'.lget rfl, hR w' _ m' (Mod.trans h.only m' (fun _ h => h) (fun i hi e => by omega)) ?_⟩
  exact (hn.mod m' fun k hk e => by omega).mono fun k hk => ⟨by omega, by omega⟩
/-- The box is the answer's own. -/
theorem nExit_self {w0 : World} {g : Nat} {X : Nat → Prop} {x : Nd} {vw va vr vo vk : Value} {R : Ending → World → Prop} (h : NB w0 w g w0.heap.size w0.heap.size X x vw va vr vo vk)
    (hR : ∀ w' cs, Mod (fun k => k = w0.heap.size) w w' → Only g w0 w' → NdE w' (fun k => w0.heap.size ≤ k ∧ k < w'.heap.size) x cs → R (.returned (.agg ⟨cs⟩)) w') : NExit w0.heap.size w0.heap.size w R := by
  have hr := h.row
  obtain ⟨pw, cw, rfl⟩ := h.ow.form
  obtain ⟨pa, ca, rfl⟩ := h.oa.form
  obtain ⟨pr, cr, rfl⟩ := h.ord.form
  obtain ⟨po, co, rfl⟩ := h.oo.form
  obtain ⟨pk, ck, rfl⟩ := h.ok.form
  refine ⟨_, _, _, _, _, _, _, _, _, _, _, _, _, _, _, _, _, _, hr.lget rfl, hr.lget rfl, hr.lget rfl, hr.lget rfl, hr.lget rfl, hr.lget rfl, hr.lget rfl, hr.lget rfl, stK hr (by simp) (by simp [Value.oneCell']) fun w' r' m' z' => ?_⟩
  have h' := h.put m' r' (.inr ⟨rfl, rfl⟩) ⟨rfl, rfl⟩ ⟨rfl, rfl⟩ (.inr ⟨rfl, rfl⟩) (.inr ⟨rfl, rfl⟩)
  exact ⟨_, _, _, _, _, _, _, _, _, _, _, _, _, _, _, _, _, _, r'.lget rfl, r'.lget rfl, r'.lget rfl, r'.lget rfl, r'.lget rfl, r'.lget rfl, r'.lget rfl, r'.lget rfl, hR w' _ m' h'.only h'.nde⟩
end Go.Proofs.YtcoeiiihmpnagaaDoor
namespace Go.Proofs.YtcoeiiihmpnagaaDoor
open Go.RowKit Vc
variable {w : World}

abbrev Nd.addW (x : Nd) (y : List Pt) : Nd := .mk x.k x.neg x.nm (x.ws ++ [y]) x.as x.rs x.os x.ks
theorem NB.addW {w0 w1 : World} {g gn B : Nat} {X : Nat → Prop} {x : Nd} {va vr vo vk : Value} {p : Option Addr} {n c : Nat} {y : List Pt} {cs : List Value} (h : NB w0 w1 g gn B X x (.slice p n c) va vr vo vk) (o : Only g w1 w) (hy : wsE.E w (fun k => w1.heap.size ≤ k ∧ k < w.heap.size) y cs) (hn : x.ws.length < 1000000) {K : World → Prop}
    (hK : ∀ p' c' w' X', NB w0 w' g gn B X' (x.addW y) (.slice p' (n + 1) c') va vr vo vk → Mod (fun k => B ≤ k) w w' → K w') :
    letW (w.alloc (.cells ⟨cs⟩ 49)) (fun w2 => w2.cell? (Addr.mk gn 3 none) = some (.slice p n c) ∧ appK w2 49 1 24 p n c (some (Addr.mk w.heap.size 0 none)) 1 (fun p' c' w9 => stCells (Addr.mk gn 3 none) K 0 [.slice p' (n + 1) c'] w9)) := by
  have h2 := h.on o
  obtain ⟨_, _, _, he, _, hg, _⟩ := id h2.ow
  injection he with _ en _
  have hgl := h2.row.lt
  have hsz := h.only.size
  have hoz := o.size
  have hgn := h2.hgn
  have hB := h2.hB
  refine Enc.OutX.push (Sw := fun wq => wq.cell? (Addr.mk gn 3 none) = some (.slice p n c)) h2.ow (by omega) (fun k hk => (h2.xs k hk).1) hgl (fun wq hq => (h2.row.still hq).lget rfl) (wsE.turn (fun k hk => ⟨?_, hk.2, fun hx => ?_⟩) (fun _ _ _ h => h) hy) (by omega) (by omega) fun p' c' w9 ho9 hm9 hw9 hl9 => ?_
  · have := h.row.lt
    omega
  · have := (h.xs k hx).1
    omega
  have hr9 := h2.row.mod hm9 (fun hk => (hg gn hk).2 rfl)
  refine stK hr9 (by simp) (by simp [Value.oneCell']) fun w10 r10 m10 z10 => hK p' c' w10 (fun k => X k ∨ (Value.slice p' (n + 1) c').ownBlock = some k) ?_ ?_
  rotate_left
  · exact Mod.trans hm9 m10 (fun k hk => (h2.xs k (hg k hk).1).2) (fun k _ hk => by omega)
  have hz9 := hm9.size
  have hz10 := m10.size
  have oth : ∀ {β : Type} {f : Enc β} {u : TypeId} {m : List β} {v' : Value}, f.OutX w B u X gn m v' → (∀ k, (Value.slice p n c).ownBlock = some k → v'.ownBlock ≠ some k) → f.OutX w10 B u (fun k => X k ∨ (Value.slice p' (n + 1) c').ownBlock = some k) gn m v' := by
    intro β f u m v' hf hne
    obtain ⟨_, _, _, _, _, hgv, _⟩ := id hf
    exact (hf.mod hm9 (fun k _ _ hs => ⟨(hg k hs).1, hne k hs⟩) (fun _ h => .inl h) (fun k hk => hk.elim .inl (fun h => hw9 k h))).mod m10 (fun k _ _ e => by subst e; exact ⟨.inl h2.xg, fun hk => (hgv _ hk).2 rfl⟩) (fun _ h => h) (fun _ h => .inl h)
  have own10 := ho9.mod m10 (X' := fun k => X k ∨ (Value.slice p' (n + 1) c').ownBlock = some k) (fun k _ _ e => by
    subst e
    obtain ⟨_, _, _, _, _, hgv, _⟩ := id ho9
    exact ⟨.inl h2.xg, fun hk => (hgv _ hk).2 rfl⟩) (fun _ h => h) (fun _ h => .inl h)
  have hlow : ∀ k, (Value.slice p' (n + 1) c').ownBlock = some k → B ≤ k := fun k hk => by
    rcases hw9 k hk with hk | hk
    · exact (h2.xs k hk).2
    · omega
  refine ⟨r10, Mod.trans (Mod.trans h2.only hm9 (fun _ h => h) (fun i hi hk => by have := (h2.xs _ (hg _ hk).1).2; omega)) m10 (fun _ h => h) (fun i hi e => by omega), h2.hg, hB, hgn, fun k hk => ?_, .inl h2.xg, own10, oth h2.oa (fun k hk => h2.ow.apart h2.oa (by decide) hk), oth h2.ord (fun k hk => h2.ow.apart h2.ord (by decide) hk), oth h2.oo (fun k hk => h2.ow.apart h2.oo (by decide) hk), oth h2.ok (fun k hk => h2.ow.apart h2.ok (by decide) hk)⟩
  rcases hk with hk | hk
  · have := h2.xs k hk
    exact ⟨by omega, this.2⟩
  · have := hl9 k hk
    exact ⟨by omega, hlow k hk⟩
theorem NB.addW' {w0 w1 : World} {g gn B : Nat} {X : Nat → Prop} {x : Nd} {va vr vo vk : Value} {p : Option Addr} {n c : Nat} {y : List Pt} {cs : List Value} (h : NB w0 w1 g gn B X x (.slice p n c) va vr vo vk) (o : Only g w1 w) (hy : wsE.E w (fun k => w1.heap.size ≤ k ∧ k < w.heap.size) y cs) (hn : x.ws.length < 1000000) {K : World → Prop}
    (hK : ∀ p' c' w' X', NB w0 w' g gn B X' (x.addW y) (.slice p' (n + 1) c') va vr vo vk → Mod (fun k => B ≤ k) w w' → K w') :
    letW (w.alloc (.cells ⟨cs⟩ 49)) (fun w2 => appK w2 49 1 24 p n c (some (Addr.mk w.heap.size 0 none)) 1 (fun p' c' w9 => stCells (Addr.mk gn 3 none) K 0 [.slice p' (n + 1) c'] w9)) := by
  have h0 := h.addW o hy hn hK
  exact h0.2
abbrev Nd.addA (x : Nd) (y : Txt × List Pt) : Nd := .mk x.k x.neg x.nm x.ws (x.as ++ [y]) x.rs x.os x.ks
theorem NB.addA {w0 w1 : World} {g gn B : Nat} {X : Nat → Prop} {x : Nd} {vw vr vo vk : Value} {p : Option Addr} {n c : Nat} {y : Txt × List Pt} {cs : List Value} (h : NB w0 w1 g gn B X x vw (.slice p n c) vr vo vk) (o : Only g w1 w) (hy : nsE.E w (fun k => w1.heap.size ≤ k ∧ k < w.heap.size) y cs) (hn : x.as.length < 1000000) {K : World → Prop}
    (hK : ∀ p' c' w' X', NB w0 w' g gn B X' (x.addA y) vw (.slice p' (n + 1) c') vr vo vk → Mod (fun k => B ≤ k) w w' → K w') :
    letW (w.alloc (.cells ⟨cs⟩ 51)) (fun w2 => w2.cell? (Addr.mk gn 4 none) = some (.slice p n c) ∧ appK w2 51 2 40 p n c (some (Addr.mk w.heap.size 0 none)) 1 (fun p' c' w9 => stCells (Addr.mk gn 4 none) K 0 [.slice p' (n + 1) c'] w9)) := by
  have h2 := h.on o
  obtain ⟨_, _, _, he, _, hg, _⟩ := id h2.oa
  injection he with _ en _
  have hgl := h2.row.lt
  have hsz := h.only.size
  have hoz := o.size
  have hgn := h2.hgn
  have hB := h2.hB
  refine Enc.OutX.push (Sw := fun wq => wq.cell? (Addr.mk gn 4 none) = some (.slice p n c)) h2.oa (by omega) (fun k hk => (h2.xs k hk).1) hgl (fun wq hq => (h2.row.still hq).lget rfl) (nsE.turn (fun k hk => ⟨?_, hk.2, fun hx => ?_⟩) (fun _ _ _ h => h) hy) (by omega) (by omega) fun p' c' w9 ho9 hm9 hw9 hl9 => ?_
  · have := h.row.lt
    omega
  · have := (h.xs k hx).1
    omega
  have hr9 := h2.row.mod hm9 (fun hk => (hg gn hk).2 rfl)
  refine stK hr9 (by simp) (by simp [Value.oneCell']) fun w10 r10 m10 z10 => hK p' c' w10 (fun k => X k ∨ (Value.slice p' (n + 1) c').ownBlock = some k) ?_ ?_
  rotate_left
  · exact Mod.trans hm9 m10 (fun k hk => (h2.xs k (hg k hk).1).2) (fun k _ hk => by omega)
  have hz9 := hm9.size
  have hz10 := m10.size
  have oth : ∀ {β : Type} {f : Enc β} {u : TypeId} {m : List β} {v' : Value}, f.OutX w B u X gn m v' → (∀ k, (Value.slice p n c).ownBlock = some k → v'.ownBlock ≠ some k) → f.OutX w10 B u (fun k => X k ∨ (Value.slice p' (n + 1) c').ownBlock = some k) gn m v' := by
    intro β f u m v' hf hne
    obtain ⟨_, _, _, _, _, hgv, _⟩ := id hf
    exact (hf.mod hm9 (fun k _ _ hs => ⟨(hg k hs).1, hne k hs⟩) (fun _ h => .inl h) (fun k hk => hk.elim .inl (fun h => hw9 k h))).mod m10 (fun k _ _ e => by subst e; exact ⟨.inl h2.xg, fun hk => (hgv _ hk).2 rfl⟩) (fun _ h => h) (fun _ h => .inl h)
  have own10 := ho9.mod m10 (X' := fun k => X k ∨ (Value.slice p' (n + 1) c').ownBlock = some k) (fun k _ _ e => by
    subst e
    obtain ⟨_, _, _, _, _, hgv, _⟩ := id ho9
    exact ⟨.inl h2.xg, fun hk => (hgv _ hk).2 rfl⟩) (fun _ h => h) (fun _ h => .inl h)
  have hlow : ∀ k, (Value.slice p' (n + 1) c').ownBlock = some k → B ≤ k := fun k hk => by
    rcases hw9 k hk with hk | hk
    · exact (h2.xs k hk).2
    · omega
  refine ⟨r10, Mod.trans (Mod.trans h2.only hm9 (fun _ h => h) (fun i hi hk => by have := (h2.xs _ (hg _ hk).1).2; omega)) m10 (fun _ h => h) (fun i hi e => by omega), h2.hg, hB, hgn, fun k hk => ?_, .inl h2.xg, oth h2.ow (fun k hk => h2.oa.apart h2.ow (by decide) hk), own10, oth h2.ord (fun k hk => h2.oa.apart h2.ord (by decide) hk), oth h2.oo (fun k hk => h2.oa.apart h2.oo (by decide) hk), oth h2.ok (fun k hk => h2.oa.apart h2.ok (by decide) hk)⟩
  rcases hk with hk | hk
  · have := h2.xs k hk
    exact ⟨by omega, this.2⟩
  · have := hl9 k hk
    exact ⟨by omega, hlow k hk⟩
theorem NB.addA' {w0 w1 : World} {g gn B : Nat} {X : Nat → Prop} {x : Nd} {vw vr vo vk : Value} {p : Option Addr} {n c : Nat} {y : Txt × List Pt} {cs : List Value} (h : NB w0 w1 g gn B X x vw (.slice p n c) vr vo vk) (o : Only g w1 w) (hy : nsE.E w (fun k => w1.heap.size ≤ k ∧ k < w.heap.size) y cs) (hn : x.as.length < 1000000) {K : World → Prop}
    (hK : ∀ p' c' w' X', NB w0 w' g gn B X' (x.addA y) vw (.slice p' (n + 1) c') vr vo vk → Mod (fun k => B ≤ k) w w' → K w') :
    letW (w.alloc (.cells ⟨cs⟩ 51)) (fun w2 => appK w2 51 2 40 p n c (some (Addr.mk w.heap.size 0 none)) 1 (fun p' c' w9 => stCells (Addr.mk gn 4 none) K 0 [.slice p' (n + 1) c'] w9)) := by
  have h0 := h.addA o hy hn hK
  exact h0.2
abbrev Nd.addR (x : Nd) (y : Txt × List Pt) : Nd := .mk x.k x.neg x.nm x.ws x.as (x.rs ++ [y]) x.os x.ks
theorem NB.addR {w0 w1 : World} {g gn B : Nat} {X : Nat → Prop} {x : Nd} {vw va vo vk : Value} {p : Option Addr} {n c : Nat} {y : Txt × List Pt} {cs : List Value} (h : NB w0 w1 g gn B X x vw va (.slice p n c) vo vk) (o : Only g w1 w) (hy : nsE.E w (fun k => w1.heap.size ≤ k ∧ k < w.heap.size) y cs) (hn : x.rs.length < 1000000) {K : World → Prop}
    (hK : ∀ p' c' w' X', NB w0 w' g gn B X' (x.addR y) vw va (.slice p' (n + 1) c') vo vk → Mod (fun k => B ≤ k) w w' → K w') :
    letW (w.alloc (.cells ⟨cs⟩ 54)) (fun w2 => w2.cell? (Addr.mk gn 5 none) = some (.slice p n c) ∧ appK w2 54 2 40 p n c (some (Addr.mk w.heap.size 0 none)) 1 (fun p' c' w9 => stCells (Addr.mk gn 5 none) K 0 [.slice p' (n + 1) c'] w9)) := by
  have h2 := h.on o
  obtain ⟨_, _, _, he, _, hg, _⟩ := id h2.ord
  injection he with _ en _
  have hgl := h2.row.lt
  have hsz := h.only.size
  have hoz := o.size
  have hgn := h2.hgn
  have hB := h2.hB
  refine Enc.OutX.push (Sw := fun wq => wq.cell? (Addr.mk gn 5 none) = some (.slice p n c)) h2.ord (by omega) (fun k hk => (h2.xs k hk).1) hgl (fun wq hq => (h2.row.still hq).lget rfl) (nsE.turn (fun k hk => ⟨?_, hk.2, fun hx => ?_⟩) (fun _ _ _ h => h) hy) (by omega) (by omega) fun p' c' w9 ho9 hm9 hw9 hl9 => ?_
  · have := h.row.lt
    omega
  · have := (h.xs k hx).1
    omega
  have hr9 := h2.row.mod hm9 (fun hk => (hg gn hk).2 rfl)
  refine stK hr9 (by simp) (by simp [Value.oneCell']) fun w10 r10 m10 z10 => hK p' c' w10 (fun k => X k ∨ (Value.slice p' (n + 1) c').ownBlock = some k) ?_ ?_
  rotate_left
  · exact Mod.trans hm9 m10 (fun k hk => (h2.xs k (hg k hk).1).2) (fun k _ hk => by omega)
  have hz9 := hm9.size
  have hz10 := m10.size
  have oth : ∀ {β : Type} {f : Enc β} {u : TypeId} {m : List β} {v' : Value}, f.OutX w B u X gn m v' → (∀ k, (Value.slice p n c).ownBlock = some k → v'.ownBlock ≠ some k) → f.OutX w10 B u (fun k => X k ∨ (Value.slice p' (n + 1) c').ownBlock = some k) gn m v' := by
    intro β f u m v' hf hne
    obtain ⟨_, _, _, _, _, hgv, _⟩ := id hf
    exact (hf.mod hm9 (fun k _ _ hs => ⟨(hg k hs).1, hne k hs⟩) (fun _ h => .inl h) (fun k hk => hk.elim .inl (fun h => hw9 k h))).mod m10 (fun k _ _ e => by subst e; exact ⟨.inl h2.xg, fun hk => (hgv _ hk).2 rfl⟩) (fun _ h => h) (fun _ h => .inl h)
  have own10 := ho9.mod m10 (X' := fun k => X k ∨ (Value.slice p' (n + 1) c').ownBlock = some k) (fun k _ _ e => by
    subst e
    obtain ⟨_, _, _, _, _, hgv, _⟩ := id ho9
    exact ⟨.inl h2.xg, fun hk => (hgv _ hk).2 rfl⟩) (fun _ h => h) (fun _ h => .inl h)
  have hlow : ∀ k, (Value.slice p' (n + 1) c').ownBlock = some k → B ≤ k := fun k hk => by
    rcases hw9 k hk with hk | hk
    · exact (h2.xs k hk).2
    · omega
  refine ⟨r10, Mod.trans (Mod.trans h2.only hm9 (fun _ h => h) (fun i hi hk => by have := (h2.xs _ (hg _ hk).1).2; omega)) m10 (fun _ h => h) (fun i hi e => by omega), h2.hg, hB, hgn, fun k hk => ?_, .inl h2.xg, oth h2.ow (fun k hk => h2.ord.apart h2.ow (by decide) hk), oth h2.oa (fun k hk => h2.ord.apart h2.oa (by decide) hk), own10, oth h2.oo (fun k hk => h2.ord.apart h2.oo (by decide) hk), oth h2.ok (fun k hk => h2.ord.apart h2.ok (by decide) hk)⟩
  rcases hk with hk | hk
  · have := h2.xs k hk
    exact ⟨by omega, this.2⟩
  · have := hl9 k hk
    exact ⟨by omega, hlow k hk⟩
theorem NB.addR' {w0 w1 : World} {g gn B : Nat} {X : Nat → Prop} {x : Nd} {vw va vo vk : Value} {p : Option Addr} {n c : Nat} {y : Txt × List Pt} {cs : List Value} (h : NB w0 w1 g gn B X x vw va (.slice p n c) vo vk) (o : Only g w1 w) (hy : nsE.E w (fun k => w1.heap.size ≤ k ∧ k < w.heap.size) y cs) (hn : x.rs.length < 1000000) {K : World → Prop}
    (hK : ∀ p' c' w' X', NB w0 w' g gn B X' (x.addR y) vw va (.slice p' (n + 1) c') vo vk → Mod (fun k => B ≤ k) w w' → K w') :
    letW (w.alloc (.cells ⟨cs⟩ 54)) (fun w2 => appK w2 54 2 40 p n c (some (Addr.mk w.heap.size 0 none)) 1 (fun p' c' w9 => stCells (Addr.mk gn 5 none) K 0 [.slice p' (n + 1) c'] w9)) := by
  have h0 := h.addR o hy hn hK
  exact h0.2
abbrev Nd.addO (x : Nd) (y : Txt) : Nd := .mk x.k x.neg x.nm x.ws x.as x.rs (x.os ++ [y]) x.ks
theorem NB.addO {w0 w1 : World} {g gn B : Nat} {X : Nat → Prop} {x : Nd} {vw va vr vk : Value} {p : Option Addr} {n c : Nat} {y : Txt} {cs : List Value} (h : NB w0 w1 g gn B X x vw va vr (.slice p n c) vk) (o : Only g w1 w) (hy : osE.E w (fun k => w1.heap.size ≤ k ∧ k < w.heap.size) y cs) (hn : x.os.length < 1000000) {K : World → Prop}
    (hK : ∀ p' c' w' X', NB w0 w' g gn B X' (x.addO y) vw va vr (.slice p' (n + 1) c') vk → Mod (fun k => B ≤ k) w w' → K w') :
    letW (w.alloc (.cells ⟨cs⟩ 9)) (fun w2 => w2.cell? (Addr.mk gn 6 none) = some (.slice p n c) ∧ appK w2 9 1 16 p n c (some (Addr.mk w.heap.size 0 none)) 1 (fun p' c' w9 => stCells (Addr.mk gn 6 none) K 0 [.slice p' (n + 1) c'] w9)) := by
  have h2 := h.on o
  obtain ⟨_, _, _, he, _, hg, _⟩ := id h2.oo
  injection he with _ en _
  have hgl := h2.row.lt
  have hsz := h.only.size
  have hoz := o.size
  have hgn := h2.hgn
  have hB := h2.hB
  refine Enc.OutX.push (Sw := fun wq => wq.cell? (Addr.mk gn 6 none) = some (.slice p n c)) h2.oo (by omega) (fun k hk => (h2.xs k hk).1) hgl (fun wq hq => (h2.row.still hq).lget rfl) (osE.turn (fun k hk => ⟨?_, hk.2, fun hx => ?_⟩) (fun _ _ _ h => h) hy) (by omega) (by omega) fun p' c' w9 ho9 hm9 hw9 hl9 => ?_
  · have := h.row.lt
    omega
  · have := (h.xs k hx).1
    omega
  have hr9 := h2.row.mod hm9 (fun hk => (hg gn hk).2 rfl)
  refine stK hr9 (by simp) (by simp [Value.oneCell']) fun w10 r10 m10 z10 => hK p' c' w10 (fun k => X k ∨ (Value.slice p' (n + 1) c').ownBlock = some k) ?_ ?_
  rotate_left
  · exact Mod.trans hm9 m10 (fun k hk => (h2.xs k (hg k hk).1).2) (fun k _ hk => by omega)
  have hz9 := hm9.size
  have hz10 := m10.size
  have oth : ∀ {β : Type} {f : Enc β} {u : TypeId} {m : List β} {v' : Value}, f.OutX w B u X gn m v' → (∀ k, (Value.slice p n c).ownBlock = some k → v'.ownBlock ≠ some k) → f.OutX w10 B u (fun k => X k ∨ (Value.slice p' (n + 1) c').ownBlock = some k) gn m v' := by
    intro β f u m v' hf hne
    obtain ⟨_, _, _, _, _, hgv, _⟩ := id hf
    exact (hf.mod hm9 (fun k _ _ hs => ⟨(hg k hs).1, hne k hs⟩) (fun _ h => .inl h) (fun k hk => hk.elim .inl (fun h => hw9 k h))).mod m10 (fun k _ _ e => by subst e; exact ⟨.inl h2.xg, fun hk => (hgv _ hk).2 rfl⟩) (fun _ h => h) (fun _ h => .inl h)
  have own10 := ho9.mod m10 (X' := fun k => X k ∨ (Value.slice p' (n + 1) c').ownBlock = some k) (fun k _ _ e => by
    subst e
    obtain ⟨_, _, _, _, _, hgv, _⟩ := id ho9
    exact ⟨.inl h2.xg, fun hk => (hgv _ hk).2 rfl⟩) (fun _ h => h) (fun _ h => .inl h)
  have hlow : ∀ k, (Value.slice p' (n + 1) c').ownBlock = some k → B ≤ k := fun k hk => by
    rcases hw9 k hk with hk | hk
    · exact (h2.xs k hk).2
    · omega
  refine ⟨r10, Mod.trans (Mod.trans h2.only hm9 (fun _ h => h) (fun i hi hk => by have := (h2.xs _ (hg _ hk).1).2; omega)) m10 (fun _ h => h) (fun i hi e => by omega), h2.hg, hB, hgn, fun k hk => ?_, .inl h2.xg, oth h2.ow (fun k hk => h2.oo.apart h2.ow (by decide) hk), oth h2.oa (fun k hk => h2.oo.apart h2.oa (by decide) hk), oth h2.ord (fun k hk => h2.oo.apart h2.ord (by decide) hk), own10, oth h2.ok (fun k hk => h2.oo.apart h2.ok (by decide) hk)⟩
  rcases hk with hk | hk
  · have := h2.xs k hk
    exact ⟨by omega, this.2⟩
  · have := hl9 k hk
    exact ⟨by omega, hlow k hk⟩
theorem NB.addO' {w0 w1 : World} {g gn B : Nat} {X : Nat → Prop} {x : Nd} {vw va vr vk : Value} {p : Option Addr} {n c : Nat} {y : Txt} {cs : List Value} (h : NB w0 w1 g gn B X x vw va vr (.slice p n c) vk) (o : Only g w1 w) (hy : osE.E w (fun k => w1.heap.size ≤ k ∧ k < w.heap.size) y cs) (hn : x.os.length < 1000000) {K : World → Prop}
    (hK : ∀ p' c' w' X', NB w0 w' g gn B X' (x.addO y) vw va vr (.slice p' (n + 1) c') vk → Mod (fun k => B ≤ k) w w' → K w') :
    letW (w.alloc (.cells ⟨cs⟩ 9)) (fun w2 => appK w2 9 1 16 p n c (some (Addr.mk w.heap.size 0 none)) 1 (fun p' c' w9 => stCells (Addr.mk gn 6 none) K 0 [.slice p' (n + 1) c'] w9)) := by
  have h0 := h.addO o hy hn hK
  exact h0.2
abbrev Nd.addK (x : Nd) (y : Nd) : Nd := .mk x.k x.neg x.nm x.ws x.as x.rs x.os (x.ks ++ [y])
theorem NB.addK {w0 w1 : World} {g gn B : Nat} {X : Nat → Prop} {x : Nd} {vw va vr vo : Value} {p : Option Addr} {n c : Nat} {y : Nd} {cs : List Value} (h : NB w0 w1 g gn B X x vw va vr vo (.slice p n c)) (o : Only g w1 w) (hy : ndE.E w (fun k => w1.heap.size ≤ k ∧ k < w.heap.size) y cs) (hn : x.ks.length < 1000000) {K : World → Prop}
    (hK : ∀ p' c' w' X', NB w0 w' g gn B X' (x.addK y) vw va vr vo (.slice p' (n + 1) c') → Mod (fun k => B ≤ k) w w' → K w') :
    letW (w.alloc (.cells ⟨cs⟩ 32)) (fun w2 => w2.cell? (Addr.mk gn 7 none) = some (.slice p n c) ∧ appK w2 32 8 152 p n c (some (Addr.mk w.heap.size 0 none)) 1 (fun p' c' w9 => stCells (Addr.mk gn 7 none) K 0 [.slice p' (n + 1) c'] w9)) := by
  have h2 := h.on o
  obtain ⟨_, _, _, he, _, hg, _⟩ := id h2.ok
  injection he with _ en _
  have hgl := h2.row.lt
  have hsz := h.only.size
  have hoz := o.size
  have hgn := h2.hgn
  have hB := h2.hB
  refine Enc.OutX.push (Sw := fun wq => wq.cell? (Addr.mk gn 7 none) = some (.slice p n c)) h2.ok (by omega) (fun k hk => (h2.xs k hk).1) hgl (fun wq hq => (h2.row.still hq).lget rfl) (ndE.turn (fun k hk => ⟨?_, hk.2, fun hx => ?_⟩) (fun _ _ _ h => h) hy) (by omega) (by omega) fun p' c' w9 ho9 hm9 hw9 hl9 => ?_
  · have := h.row.lt
    omega
  · have := (h.xs k hx).1
    omega
  have hr9 := h2.row.mod hm9 (fun hk => (hg gn hk).2 rfl)
  refine stK hr9 (by simp) (by simp [Value.oneCell']) fun w10 r10 m10 z10 => hK p' c' w10 (fun k => X k ∨ (Value.slice p' (n + 1) c').ownBlock = some k) ?_ ?_
  rotate_left
  · exact Mod.trans hm9 m10 (fun k hk => (h2.xs k (hg k hk).1).2) (fun k _ hk => by omega)
  have hz9 := hm9.size
  have hz10 := m10.size
  have oth : ∀ {β : Type} {f : Enc β} {u : TypeId} {m : List β} {v' : Value}, f.OutX w B u X gn m v' → (∀ k, (Value.slice p n c).ownBlock = some k → v'.ownBlock ≠ some k) → f.OutX w10 B u (fun k => X k ∨ (Value.slice p' (n + 1) c').ownBlock = some k) gn m v' := by
    intro β f u m v' hf hne
    obtain ⟨_, _, _, _, _, hgv, _⟩ := id hf
    exact (hf.mod hm9 (fun k _ _ hs => ⟨(hg k hs).1, hne k hs⟩) (fun _ h => .inl h) (fun k hk => hk.elim .inl (fun h => hw9 k h))).mod m10 (fun k _ _ e => by subst e; exact ⟨.inl h2.xg, fun hk => (hgv _ hk).2 rfl⟩) (fun _ h => h) (fun _ h => .inl h)
  have own10 := ho9.mod m10 (X' := fun k => X k ∨ (Value.slice p' (n + 1) c').ownBlock = some k) (fun k _ _ e => by
    subst e
    obtain ⟨_, _, _, _, _, hgv, _⟩ := id ho9
    exact ⟨.inl h2.xg, fun hk => (hgv _ hk).2 rfl⟩) (fun _ h => h) (fun _ h => .inl h)
  have hlow : ∀ k, (Value.slice p' (n + 1) c').ownBlock = some k → B ≤ k := fun k hk => by
    rcases hw9 k hk with hk | hk
    · exact (h2.xs k hk).2
    · omega
  refine ⟨r10, Mod.trans (Mod.trans h2.only hm9 (fun _ h => h) (fun i hi hk => by have := (h2.xs _ (hg _ hk).1).2; omega)) m10 (fun _ h => h) (fun i hi e => by omega), h2.hg, hB, hgn, fun k hk => ?_, .inl h2.xg, oth h2.ow (fun k hk => h2.ok.apart h2.ow (by decide) hk), oth h2.oa (fun k hk => h2.ok.apart h2.oa (by decide) hk), oth h2.ord (fun k hk => h2.ok.apart h2.ord (by decide) hk), oth h2.oo (fun k hk => h2.ok.apart h2.oo (by decide) hk), own10⟩
  rcases hk with hk | hk
  · have := h2.xs k hk
    exact ⟨by omega, this.2⟩
  · have := hl9 k hk
    exact ⟨by omega, hlow k hk⟩
theorem NB.addK' {w0 w1 : World} {g gn B : Nat} {X : Nat → Prop} {x : Nd} {vw va vr vo : Value} {p : Option Addr} {n c : Nat} {y : Nd} {cs : List Value} (h : NB w0 w1 g gn B X x vw va vr vo (.slice p n c)) (o : Only g w1 w) (hy : ndE.E w (fun k => w1.heap.size ≤ k ∧ k < w.heap.size) y cs) (hn : x.ks.length < 1000000) {K : World → Prop}
    (hK : ∀ p' c' w' X', NB w0 w' g gn B X' (x.addK y) vw va vr vo (.slice p' (n + 1) c') → Mod (fun k => B ≤ k) w w' → K w') :
    letW (w.alloc (.cells ⟨cs⟩ 32)) (fun w2 => appK w2 32 8 152 p n c (some (Addr.mk w.heap.size 0 none)) 1 (fun p' c' w9 => stCells (Addr.mk gn 7 none) K 0 [.slice p' (n + 1) c'] w9)) := by
  have h0 := h.addK o hy hn hK
  exact h0.2
end Go.Proofs.YtcoeiiihmpnagaaDoor
