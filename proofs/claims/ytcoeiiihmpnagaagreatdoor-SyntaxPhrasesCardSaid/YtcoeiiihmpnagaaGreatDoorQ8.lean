/- Texts of one proof, one behind the other. Conditions: as each theorem names them. -/
import Derived.Test.YtcoeiiihmpnagaaGreatDoorQ7
namespace Go.Proofs.YtcoeiiihmpnagaaGreatDoor
open Go.RowKit Vc
variable {w : World}
abbrev Nd.addW (x : Nd) (y : List Pt) : Nd := .mk x.k x.neg x.nm (x.ws ++ [y]) x.as x.rs x.os x.ks
theorem NB.addW {w0 w1 : World} {g gn B : Nat} {X : Nat → Prop} {x : Nd} {va vr vo vk : Value} {p : Option Addr} {n c : Nat} {y : List Pt} {cs : List Value} (h : NB w0 w1 g gn B X x (.slice p n c) va vr vo vk) (o : Only g w1 w) (hy : wsE.E w (fun k => w1.heap.size ≤ k ∧ k < w.heap.size) y cs) (hn : x.ws.length < 1000000) {K : World → Prop}
    (hK : ∀ p' c' w' X', NB w0 w' g gn B X' (x.addW y) (.slice p' (n + 1) c') va vr vo vk → Mod (fun k => B ≤ k) w w' → K w') :
    letW (w.alloc (.cells ⟨cs⟩ 53)) (fun w2 => w2.cell? (Addr.mk gn 3 none) = some (.slice p n c) ∧ appK w2 53 1 24 p n c (some (Addr.mk w.heap.size 0 none)) 1 (fun p' c' w9 => stCells (Addr.mk gn 3 none) K 0 [.slice p' (n + 1) c'] w9)) := by
  have h2 := h.on o
  obtain ⟨_, _, _, he, _, hg, _⟩ := id h2.ow
  injection he with _ en _
  have hgl := h2.row.lt
  have hsz := h.only.size
  have hoz := o.size
  have hgn := h2.hgn
  have hB := h2.hB
  refine Enc.OutX.push (Sw := fun wq => wq.cell? (Addr.mk gn 3 none) = some (.slice p n c)) h2.ow (by omega) (fun k hk => (h2.xs k hk).1) hgl (fun wq hq => (h2.row.still hq).lget rfl) (wsE.turn (fun k hk => ⟨?_, hk.2, fun hx => ?_⟩) (fun _ _ _ h => h) hy) (by omega) (by omega) fun p' c' w9 ho9 hm9 hw9 hl9 => ?_
  · have := h.row.lt
    omega
  · have := (h.xs k hx).1
    omega
  have hr9 := h2.row.mod hm9 (fun hk => (hg gn hk).2 rfl)
  refine stK hr9 (by simp) (by simp [Value.oneCell']) fun w10 r10 m10 z10 => hK p' c' w10 (fun k => X k ∨ (Value.slice p' (n + 1) c').ownBlock = some k) ?_ ?_
  rotate_left
  · exact Mod.trans hm9 m10 (fun k hk => (h2.xs k (hg k hk).1).2) (fun k _ hk => by omega)
  have hz9 := hm9.size
  have hz10 := m10.size
  have oth : ∀ {β : Type} {f : Enc β} {u : TypeId} {m : List β} {v' : Value}, f.OutX w B u X gn m v' → (∀ k, (Value.slice p n c).ownBlock = some k → v'.ownBlock ≠ some k) → f.OutX w10 B u (fun k => X k ∨ (Value.slice p' (n + 1) c').ownBlock = some k) gn m v' := by
    intro β f u m v' hf hne
    obtain ⟨_, _, _, _, _, hgv, _⟩ := id hf
    exact (hf.mod hm9 (fun k _ _ hs => ⟨(hg k hs).1, hne k hs⟩) (fun _ h => .inl h) (fun k hk => hk.elim .inl (fun h => hw9 k h))).mod m10 (fun k _ _ e => by subst e; exact ⟨.inl h2.xg, fun hk => (hgv _ hk).2 rfl⟩) (fun _ h => h) (fun _ h => .inl h)
  have own10 := ho9.mod m10 (X' := fun k => X k ∨ (Value.slice p' (n + 1) c').ownBlock = some k) (fun k _ _ e => by
    subst e
    obtain ⟨_, _, _, _, _, hgv, _⟩ := id ho9
    exact ⟨.inl h2.xg, fun hk => (hgv _ hk).2 rfl⟩) (fun _ h => h) (fun _ h => .inl h)
  have hlow : ∀ k, (Value.slice p' (n + 1) c').ownBlock = some k → B ≤ k := fun k hk => by
    rcases hw9 k hk with hk | hk
    · exact (h2.xs k hk).2
    · omega
  refine ⟨r10, Mod.trans (Mod.trans h2.only hm9 (fun _ h => h) (fun i hi hk => by have := (h2.xs _ (hg _ hk).1).2; omega)) m10 (fun _ h => h) (fun i hi e => by omega), h2.hg, hB, hgn, fun k hk => ?_, .inl h2.xg, own10, oth h2.oa (fun k hk => h2.ow.apart h2.oa (by decide) hk), oth h2.ord (fun k hk => h2.ow.apart h2.ord (by decide) hk), oth h2.oo (fun k hk => h2.ow.apart h2.oo (by decide) hk), oth h2.ok (fun k hk => h2.ow.apart h2.ok (by decide) hk)⟩
  rcases hk with hk | hk
  · have := h2.xs k hk
    exact ⟨by omega, this.2⟩
  · have := hl9 k hk
    exact ⟨by omega, hlow k hk⟩
theorem NB.addW' {w0 w1 : World} {g gn B : Nat} {X : Nat → Prop} {x : Nd} {va vr vo vk : Value} {p : Option Addr} {n c : Nat} {y : List Pt} {cs : List Value} (h : NB w0 w1 g gn B X x (.slice p n c) va vr vo vk) (o : Only g w1 w) (hy : wsE.E w (fun k => w1.heap.size ≤ k ∧ k < w.heap.size) y cs) (hn : x.ws.length < 1000000) {K : World → Prop}
    (hK : ∀ p' c' w' X', NB w0 w' g gn B X' (x.addW y) (.slice p' (n + 1) c') va vr vo vk → Mod (fun k => B ≤ k) w w' → K w') :
    letW (w.alloc (.cells ⟨cs⟩ 53)) (fun w2 => appK w2 53 1 24 p n c (some (Addr.mk w.heap.size 0 none)) 1 (fun p' c' w9 => stCells (Addr.mk gn 3 none) K 0 [.slice p' (n + 1) c'] w9)) := by
  have h0 := h.addW o hy hn hK
  exact h0.2
abbrev Nd.addA (x : Nd) (y : Txt × List Pt) : Nd := .mk x.k x.neg x.nm x.ws (x.as ++ [y]) x.rs x.os x.ks
theorem NB.addA {w0 w1 : World} {g gn B : Nat} {X : Nat → Prop} {x : Nd} {vw vr vo vk : Value} {p : Option Addr} {n c : Nat} {y : Txt × List Pt} {cs : List Value} (h : NB w0 w1 g gn B X x vw (.slice p n c) vr vo vk) (o : Only g w1 w) (hy : nsE.E w (fun k => w1.heap.size ≤ k ∧ k < w.heap.size) y cs) (hn : x.as.length < 1000000) {K : World → Prop}
    (hK : ∀ p' c' w' X', NB w0 w' g gn B X' (x.addA y) vw (.slice p' (n + 1) c') vr vo vk → Mod (fun k => B ≤ k) w w' → K w') :
    letW (w.alloc (.cells ⟨cs⟩ 55)) (fun w2 => w2.cell? (Addr.mk gn 4 none) = some (.slice p n c) ∧ appK w2 55 2 40 p n c (some (Addr.mk w.heap.size 0 none)) 1 (fun p' c' w9 => stCells (Addr.mk gn 4 none) K 0 [.slice p' (n + 1) c'] w9)) := by
  have h2 := h.on o
  obtain ⟨_, _, _, he, _, hg, _⟩ := id h2.oa
  injection he with _ en _
  have hgl := h2.row.lt
  have hsz := h.only.size
  have hoz := o.size
  have hgn := h2.hgn
  have hB := h2.hB
  refine Enc.OutX.push (Sw := fun wq => wq.cell? (Addr.mk gn 4 none) = some (.slice p n c)) h2.oa (by omega) (fun k hk => (h2.xs k hk).1) hgl (fun wq hq => (h2.row.still hq).lget rfl) (nsE.turn (fun k hk => ⟨?_, hk.2, fun hx => ?_⟩) (fun _ _ _ h => h) hy) (by omega) (by omega) fun p' c' w9 ho9 hm9 hw9 hl9 => ?_
  · have := h.row.lt
    omega
  · have := (h.xs k hx).1
    omega
  have hr9 := h2.row.mod hm9 (fun hk => (hg gn hk).2 rfl)
  refine stK hr9 (by simp) (by simp [Value.oneCell']) fun w10 r10 m10 z10 => hK p' c' w10 (fun k => X k ∨ (Value.slice p' (n + 1) c').ownBlock = some k) ?_ ?_
  rotate_left
  · exact Mod.trans hm9 m10 (fun k hk => (h2.xs k (hg k hk).1).2) (fun k _ hk => by omega)
  have hz9 := hm9.size
  have hz10 := m10.size
  have oth : ∀ {β : Type} {f : Enc β} {u : TypeId} {m : List β} {v' : Value}, f.OutX w B u X gn m v' → (∀ k, (Value.slice p n c).ownBlock = some k → v'.ownBlock ≠ some k) → f.OutX w10 B u (fun k => X k ∨ (Value.slice p' (n + 1) c').ownBlock = some k) gn m v' := by
    intro β f u m v' hf hne
    obtain ⟨_, _, _, _, _, hgv, _⟩ := id hf
    exact (hf.mod hm9 (fun k _ _ hs => ⟨(hg k hs).1, hne k hs⟩) (fun _ h => .inl h) (fun k hk => hk.elim .inl (fun h => hw9 k h))).mod m10 (fun k _ _ e => by subst e; exact ⟨.inl h2.xg, fun hk => (hgv _ hk).2 rfl⟩) (fun _ h => h) (fun _ h => .inl h)
  have own10 := ho9.mod m10 (X' := fun k => X k ∨ (Value.slice p' (n + 1) c').ownBlock = some k) (fun k _ _ e => by
    subst e
    obtain ⟨_, _, _, _, _, hgv, _⟩ := id ho9
    exact ⟨.inl h2.xg, fun hk => (hgv _ hk).2 rfl⟩) (fun _ h => h) (fun _ h => .inl h)
  have hlow : ∀ k, (Value.slice p' (n + 1) c').ownBlock = some k → B ≤ k := fun k hk => by
    rcases hw9 k hk with hk | hk
    · exact (h2.xs k hk).2
    · omega
  refine ⟨r10, Mod.trans (Mod.trans h2.only hm9 (fun _ h => h) (fun i hi hk => by have := (h2.xs _ (hg _ hk).1).2; omega)) m10 (fun _ h => h) (fun i hi e => by omega), h2.hg, hB, hgn, fun k hk => ?_, .inl h2.xg, oth h2.ow (fun k hk => h2.oa.apart h2.ow (by decide) hk), own10, oth h2.ord (fun k hk => h2.oa.apart h2.ord (by decide) hk), oth h2.oo (fun k hk => h2.oa.apart h2.oo (by decide) hk), oth h2.ok (fun k hk => h2.oa.apart h2.ok (by decide) hk)⟩
  rcases hk with hk | hk
  · have := h2.xs k hk
    exact ⟨by omega, this.2⟩
  · have := hl9 k hk
    exact ⟨by omega, hlow k hk⟩
theorem NB.addA' {w0 w1 : World} {g gn B : Nat} {X : Nat → Prop} {x : Nd} {vw vr vo vk : Value} {p : Option Addr} {n c : Nat} {y : Txt × List Pt} {cs : List Value} (h : NB w0 w1 g gn B X x vw (.slice p n c) vr vo vk) (o : Only g w1 w) (hy : nsE.E w (fun k => w1.heap.size ≤ k ∧ k < w.heap.size) y cs) (hn : x.as.length < 1000000) {K : World → Prop}
    (hK : ∀ p' c' w' X', NB w0 w' g gn B X' (x.addA y) vw (.slice p' (n + 1) c') vr vo vk → Mod (fun k => B ≤ k) w w' → K w') :
    letW (w.alloc (.cells ⟨cs⟩ 55)) (fun w2 => appK w2 55 2 40 p n c (some (Addr.mk w.heap.size 0 none)) 1 (fun p' c' w9 => stCells (Addr.mk gn 4 none) K 0 [.slice p' (n + 1) c'] w9)) := by
  have h0 := h.addA o hy hn hK
  exact h0.2
abbrev Nd.addR (x : Nd) (y : Txt × List Pt) : Nd := .mk x.k x.neg x.nm x.ws x.as (x.rs ++ [y]) x.os x.ks
theorem NB.addR {w0 w1 : World} {g gn B : Nat} {X : Nat → Prop} {x : Nd} {vw va vo vk : Value} {p : Option Addr} {n c : Nat} {y : Txt × List Pt} {cs : List Value} (h : NB w0 w1 g gn B X x vw va (.slice p n c) vo vk) (o : Only g w1 w) (hy : nsE.E w (fun k => w1.heap.size ≤ k ∧ k < w.heap.size) y cs) (hn : x.rs.length < 1000000) {K : World → Prop}
    (hK : ∀ p' c' w' X', NB w0 w' g gn B X' (x.addR y) vw va (.slice p' (n + 1) c') vo vk → Mod (fun k => B ≤ k) w w' → K w') :
    letW (w.alloc (.cells ⟨cs⟩ 58)) (fun w2 => w2.cell? (Addr.mk gn 5 none) = some (.slice p n c) ∧ appK w2 58 2 40 p n c (some (Addr.mk w.heap.size 0 none)) 1 (fun p' c' w9 => stCells (Addr.mk gn 5 none) K 0 [.slice p' (n + 1) c'] w9)) := by
  have h2 := h.on o
  obtain ⟨_, _, _, he, _, hg, _⟩ := id h2.ord
  injection he with _ en _
  have hgl := h2.row.lt
  have hsz := h.only.size
  have hoz := o.size
  have hgn := h2.hgn
  have hB := h2.hB
  refine Enc.OutX.push (Sw := fun wq => wq.cell? (Addr.mk gn 5 none) = some (.slice p n c)) h2.ord (by omega) (fun k hk => (h2.xs k hk).1) hgl (fun wq hq => (h2.row.still hq).lget rfl) (nsE.turn (fun k hk => ⟨?_, hk.2, fun hx => ?_⟩) (fun _ _ _ h => h) hy) (by omega) (by omega) fun p' c' w9 ho9 hm9 hw9 hl9 => ?_
  · have := h.row.lt
    omega
  · have := (h.xs k hx).1
    omega
  have hr9 := h2.row.mod hm9 (fun hk => (hg gn hk).2 rfl)
  refine stK hr9 (by simp) (by simp [Value.oneCell']) fun w10 r10 m10 z10 => hK p' c' w10 (fun k => X k ∨ (Value.slice p' (n + 1) c').ownBlock = some k) ?_ ?_
  rotate_left
  · exact Mod.trans hm9 m10 (fun k hk => (h2.xs k (hg k hk).1).2) (fun k _ hk => by omega)
  have hz9 := hm9.size
  have hz10 := m10.size
  have oth : ∀ {β : Type} {f : Enc β} {u : TypeId} {m : List β} {v' : Value}, f.OutX w B u X gn m v' → (∀ k, (Value.slice p n c).ownBlock = some k → v'.ownBlock ≠ some k) → f.OutX w10 B u (fun k => X k ∨ (Value.slice p' (n + 1) c').ownBlock = some k) gn m v' := by
    intro β f u m v' hf hne
    obtain ⟨_, _, _, _, _, hgv, _⟩ := id hf
    exact (hf.mod hm9 (fun k _ _ hs => ⟨(hg k hs).1, hne k hs⟩) (fun _ h => .inl h) (fun k hk => hk.elim .inl (fun h => hw9 k h))).mod m10 (fun k _ _ e => by subst e; exact ⟨.inl h2.xg, fun hk => (hgv _ hk).2 rfl⟩) (fun _ h => h) (fun _ h => .inl h)
  have own10 := ho9.mod m10 (X' := fun k => X k ∨ (Value.slice p' (n + 1) c').ownBlock = some k) (fun k _ _ e => by
    subst e
    obtain ⟨_, _, _, _, _, hgv, _⟩ := id ho9
    exact ⟨.inl h2.xg, fun hk => (hgv _ hk).2 rfl⟩) (fun _ h => h) (fun _ h => .inl h)
  have hlow : ∀ k, (Value.slice p' (n + 1) c').ownBlock = some k → B ≤ k := fun k hk => by
    rcases hw9 k hk with hk | hk
    · exact (h2.xs k hk).2
    · omega
  refine ⟨r10, Mod.trans (Mod.trans h2.only hm9 (fun _ h => h) (fun i hi hk => by have := (h2.xs _ (hg _ hk).1).2; omega)) m10 (fun _ h => h) (fun i hi e => by omega), h2.hg, hB, hgn, fun k hk => ?_, .inl h2.xg, oth h2.ow (fun k hk => h2.ord.apart h2.ow (by decide) hk), oth h2.oa (fun k hk => h2.ord.apart h2.oa (by decide) hk), own10, oth h2.oo (fun k hk => h2.ord.apart h2.oo (by decide) hk), oth h2.ok (fun k hk => h2.ord.apart h2.ok (by decide) hk)⟩
  rcases hk with hk | hk
  · have := h2.xs k hk
    exact ⟨by omega, this.2⟩
  · have := hl9 k hk
    exact ⟨by omega, hlow k hk⟩
theorem NB.addR' {w0 w1 : World} {g gn B : Nat} {X : Nat → Prop} {x : Nd} {vw va vo vk : Value} {p : Option Addr} {n c : Nat} {y : Txt × List Pt} {cs : List Value} (h : NB w0 w1 g gn B X x vw va (.slice p n c) vo vk) (o : Only g w1 w) (hy : nsE.E w (fun k => w1.heap.size ≤ k ∧ k < w.heap.size) y cs) (hn : x.rs.length < 1000000) {K : World → Prop}
    (hK : ∀ p' c' w' X', NB w0 w' g gn B X' (x.addR y) vw va (.slice p' (n + 1) c') vo vk → Mod (fun k => B ≤ k) w w' → K w') :
    letW (w.alloc (.cells ⟨cs⟩ 58)) (fun w2 => appK w2 58 2 40 p n c (some (Addr.mk w.heap.size 0 none)) 1 (fun p' c' w9 => stCells (Addr.mk gn 5 none) K 0 [.slice p' (n + 1) c'] w9)) := by
  have h0 := h.addR o hy hn hK
  exact h0.2
abbrev Nd.addO (x : Nd) (y : Txt) : Nd := .mk x.k x.neg x.nm x.ws x.as x.rs (x.os ++ [y]) x.ks
theorem NB.addO {w0 w1 : World} {g gn B : Nat} {X : Nat → Prop} {x : Nd} {vw va vr vk : Value} {p : Option Addr} {n c : Nat} {y : Txt} {cs : List Value} (h : NB w0 w1 g gn B X x vw va vr (.slice p n c) vk) (o : Only g w1 w) (hy : osE.E w (fun k => w1.heap.size ≤ k ∧ k < w.heap.size) y cs) (hn : x.os.length < 1000000) {K : World → Prop}
    (hK : ∀ p' c' w' X', NB w0 w' g gn B X' (x.addO y) vw va vr (.slice p' (n + 1) c') vk → Mod (fun k => B ≤ k) w w' → K w') :
    letW (w.alloc (.cells ⟨cs⟩ 9)) (fun w2 => w2.cell? (Addr.mk gn 6 none) = some (.slice p n c) ∧ appK w2 9 1 16 p n c (some (Addr.mk w.heap.size 0 none)) 1 (fun p' c' w9 => stCells (Addr.mk gn 6 none) K 0 [.slice p' (n + 1) c'] w9)) := by
  have h2 := h.on o
  obtain ⟨_, _, _, he, _, hg, _⟩ := id h2.oo
  injection he with _ en _
  have hgl := h2.row.lt
  have hsz := h.only.size
  have hoz := o.size
  have hgn := h2.hgn
  have hB := h2.hB
  refine Enc.OutX.push (Sw := fun wq => wq.cell? (Addr.mk gn 6 none) = some (.slice p n c)) h2.oo (by omega) (fun k hk => (h2.xs k hk).1) hgl (fun wq hq => (h2.row.still hq).lget rfl) (osE.turn (fun k hk => ⟨?_, hk.2, fun hx => ?_⟩) (fun _ _ _ h => h) hy) (by omega) (by omega) fun p' c' w9 ho9 hm9 hw9 hl9 => ?_
  · have := h.row.lt
    omega
  · have := (h.xs k hx).1
    omega
  have hr9 := h2.row.mod hm9 (fun hk => (hg gn hk).2 rfl)
  refine stK hr9 (by simp) (by simp [Value.oneCell']) fun w10 r10 m10 z10 => hK p' c' w10 (fun k => X k ∨ (Value.slice p' (n + 1) c').ownBlock = some k) ?_ ?_
  rotate_left
  · exact Mod.trans hm9 m10 (fun k hk => (h2.xs k (hg k hk).1).2) (fun k _ hk => by omega)
  have hz9 := hm9.size
  have hz10 := m10.size
  have oth : ∀ {β : Type} {f : Enc β} {u : TypeId} {m : List β} {v' : Value}, f.OutX w B u X gn m v' → (∀ k, (Value.slice p n c).ownBlock = some k → v'.ownBlock ≠ some k) → f.OutX w10 B u (fun k => X k ∨ (Value.slice p' (n + 1) c').ownBlock = some k) gn m v' := by
    intro β f u m v' hf hne
    obtain ⟨_, _, _, _, _, hgv, _⟩ := id hf
    exact (hf.mod hm9 (fun k _ _ hs => ⟨(hg k hs).1, hne k hs⟩) (fun _ h => .inl h) (fun k hk => hk.elim .inl (fun h => hw9 k h))).mod m10 (fun k _ _ e => by subst e; exact ⟨.inl h2.xg, fun hk => (hgv _ hk).2 rfl⟩) (fun _ h => h) (fun _ h => .inl h)
  have own10 := ho9.mod m10 (X' := fun k => X k ∨ (Value.slice p' (n + 1) c').ownBlock = some k) (fun k _ _ e => by
    subst e
    obtain ⟨_, _, _, _, _, hgv, _⟩ := id ho9
    exact ⟨.inl h2.xg, fun hk => (hgv _ hk).2 rfl⟩) (fun _ h => h) (fun _ h => .inl h)
  have hlow : ∀ k, (Value.slice p' (n + 1) c').ownBlock = some k → B ≤ k := fun k hk => by
    rcases hw9 k hk with hk | hk
    · exact (h2.xs k hk).2
    · omega
  refine ⟨r10, Mod.trans (Mod.trans h2.only hm9 (fun _ h => h) (fun i hi hk => by have := (h2.xs _ (hg _ hk).1).2; omega)) m10 (fun _ h => h) (fun i hi e => by omega), h2.hg, hB, hgn, fun k hk => ?_, .inl h2.xg, oth h2.ow (fun k hk => h2.oo.apart h2.ow (by decide) hk), oth h2.oa (fun k hk => h2.oo.apart h2.oa (by decide) hk), oth h2.ord (fun k hk => h2.oo.apart h2.ord (by decide) hk), own10, oth h2.ok (fun k hk => h2.oo.apart h2.ok (by decide) hk)⟩
  rcases hk with hk | hk
  · have := h2.xs k hk
    exact ⟨by omega, this.2⟩
  · have := hl9 k hk
    exact ⟨by omega, hlow k hk⟩
abbrev Nd.addK (x : Nd) (y : Nd) : Nd := .mk x.k x.neg x.nm x.ws x.as x.rs x.os (x.ks ++ [y])
theorem NB.addK {w0 w1 : World} {g gn B : Nat} {X : Nat → Prop} {x : Nd} {vw va vr vo : Value} {p : Option Addr} {n c : Nat} {y : Nd} {cs : List Value} (h : NB w0 w1 g gn B X x vw va vr vo (.slice p n c)) (o : Only g w1 w) (hy : ndE.E w (fun k => w1.heap.size ≤ k ∧ k < w.heap.size) y cs) (hn : x.ks.length < 1000000) {K : World → Prop}
    (hK : ∀ p' c' w' X', NB w0 w' g gn B X' (x.addK y) vw va vr vo (.slice p' (n + 1) c') → Mod (fun k => B ≤ k) w w' → K w') :
    letW (w.alloc (.cells ⟨cs⟩ 31)) (fun w2 => w2.cell? (Addr.mk gn 7 none) = some (.slice p n c) ∧ appK w2 31 8 152 p n c (some (Addr.mk w.heap.size 0 none)) 1 (fun p' c' w9 => stCells (Addr.mk gn 7 none) K 0 [.slice p' (n + 1) c'] w9)) := by
  have h2 := h.on o
  obtain ⟨_, _, _, he, _, hg, _⟩ := id h2.ok
  injection he with _ en _
  have hgl := h2.row.lt
  have hsz := h.only.size
  have hoz := o.size
  have hgn := h2.hgn
  have hB := h2.hB
  refine Enc.OutX.push (Sw := fun wq => wq.cell? (Addr.mk gn 7 none) = some (.slice p n c)) h2.ok (by omega) (fun k hk => (h2.xs k hk).1) hgl (fun wq hq => (h2.row.still hq).lget rfl) (ndE.turn (fun k hk => ⟨?_, hk.2, fun hx => ?_⟩) (fun _ _ _ h => h) hy) (by omega) (by omega) fun p' c' w9 ho9 hm9 hw9 hl9 => ?_
  · have := h.row.lt
    omega
  · have := (h.xs k hx).1
    omega
  have hr9 := h2.row.mod hm9 (fun hk => (hg gn hk).2 rfl)
  refine stK hr9 (by simp) (by simp [Value.oneCell']) fun w10 r10 m10 z10 => hK p' c' w10 (fun k => X k ∨ (Value.slice p' (n + 1) c').ownBlock = some k) ?_ ?_
  rotate_left
  · exact Mod.trans hm9 m10 (fun k hk => (h2.xs k (hg k hk).1).2) (fun k _ hk => by omega)
  have hz9 := hm9.size
  have hz10 := m10.size
  have oth : ∀ {β : Type} {f : Enc β} {u : TypeId} {m : List β} {v' : Value}, f.OutX w B u X gn m v' → (∀ k, (Value.slice p n c).ownBlock = some k → v'.ownBlock ≠ some k) → f.OutX w10 B u (fun k => X k ∨ (Value.slice p' (n + 1) c').ownBlock = some k) gn m v' := by
    intro β f u m v' hf hne
    obtain ⟨_, _, _, _, _, hgv, _⟩ := id hf
    exact (hf.mod hm9 (fun k _ _ hs => ⟨(hg k hs).1, hne k hs⟩) (fun _ h => .inl h) (fun k hk => hk.elim .inl (fun h => hw9 k h))).mod m10 (fun k _ _ e => by subst e; exact ⟨.inl h2.xg, fun hk => (hgv _ hk).2 rfl⟩) (fun _ h => h) (fun _ h => .inl h)
  have own10 := ho9.mod m10 (X' := fun k => X k ∨ (Value.slice p' (n + 1) c').ownBlock = some k) (fun k _ _ e => by
    subst e
    obtain ⟨_, _, _, _, _, hgv, _⟩ := id ho9
    exact ⟨.inl h2.xg, fun hk => (hgv _ hk).2 rfl⟩) (fun _ h => h) (fun _ h => .inl h)
  have hlow : ∀ k, (Value.slice p' (n + 1) c').ownBlock = some k → B ≤ k := fun k hk => by
    rcases hw9 k hk with hk | hk
    · exact (h2.xs k hk).2
    · omega
  refine ⟨r10, Mod.trans (Mod.trans h2.only hm9 (fun _ h => h) (fun i hi hk => by have := (h2.xs _ (hg _ hk).1).2; omega)) m10 (fun _ h => h) (fun i hi e => by omega), h2.hg, hB, hgn, fun k hk => ?_, .inl h2.xg, oth h2.ow (fun k hk => h2.ok.apart h2.ow (by decide) hk), oth h2.oa (fun k hk => h2.ok.apart h2.oa (by decide) hk), oth h2.ord (fun k hk => h2.ok.apart h2.ord (by decide) hk), oth h2.oo (fun k hk => h2.ok.apart h2.oo (by decide) hk), own10⟩
  rcases hk with hk | hk
  · have := h2.xs k hk
    exact ⟨by omega, this.2⟩
  · have := hl9 k hk
    exact ⟨by omega, hlow k hk⟩
theorem NB.addK' {w0 w1 : World} {g gn B : Nat} {X : Nat → Prop} {x : Nd} {vw va vr vo : Value} {p : Option Addr} {n c : Nat} {y : Nd} {cs : List Value} (h : NB w0 w1 g gn B X x vw va vr vo (.slice p n c)) (o : Only g w1 w) (hy : ndE.E w (fun k => w1.heap.size ≤ k ∧ k < w.heap.size) y cs) (hn : x.ks.length < 1000000) {K : World → Prop}
    (hK : ∀ p' c' w' X', NB w0 w' g gn B X' (x.addK y) vw va vr vo (.slice p' (n + 1) c') → Mod (fun k => B ≤ k) w w' → K w') :
    letW (w.alloc (.cells ⟨cs⟩ 31)) (fun w2 => appK w2 31 8 152 p n c (some (Addr.mk w.heap.size 0 none)) 1 (fun p' c' w9 => stCells (Addr.mk gn 7 none) K 0 [.slice p' (n + 1) c'] w9)) := by
  have h0 := h.addK o hy hn hK
  exact h0.2
theorem Only.tr {g : Nat} {a b c : World} (h : Only g a b) (k : Only g b c) : Only g a c := Mod.trans h k (fun _ h => h) (fun _ _ h => h)
def SyW (w : World) (g : Nat) (r : Rs (List Pt × Ts)) (e : Ending) (w' : World) : Prop := Only g w w' ∧ match r with
  | .ok x => ∃ v, e = .returned v ∧ SlAt w' (fun k => w.heap.size ≤ k ∧ k < w'.heap.size) x.1 v ∧ Pz w' g x.2
  | .bad k => e = .panicked (errP k)
theorem parts_spec {g : Nat} {s : Ts} (h : Pz w g s) (hb : TB s) : Calls Tryz.prog fn_syntax_parser_parts #[.pointer (some ⟨g, 0, none⟩)] w (SyW w g (partsF s)) := by
  refine syntax_parser_parts_calls _ _ _ ?_
  refine (peek_spec h 0).mono ?_
  rintro _ w1 ⟨rfl, s1⟩
  refine .inl ⟨_, _, rfl, wantK (fun hk => ?_) (fun hk => ⟨s1.only, ?_⟩)⟩
  · have hk := of_decide_eq_true hk
    obtain ⟨k, t, r, rfl⟩ : ∃ k t r, s = (k, t) :: r := by
      cases s with
      | nil => exact absurd hk (by decide)
      | cons x r => exact ⟨x.1, x.2, r, rfl⟩
    have hk : (k : Int) = 0 := hk
    obtain rfl : k = 0 := by omega
    refine (next_spec (h.still s1)).mono ?_
    rintro _ w2 ⟨rfl, o2, h2⟩
    have o12 : Only g w w2 := s1.only.tr o2
    have hz := s1.size
    have hz2 := o2.size
    refine .inl ⟨_, _, rfl, (Parse_spec t hb.head.1).mono ?_⟩
    rintro e3 w3 ⟨hp, s3⟩
    have hpf : partsF ((0, t) :: r) = (wpL 30 t).and fun l => .ok (l, r) := rfl
    cases hw : wpL 30 t with
    | bad j =>
      rw [hw] at hp
      have hj : j ≠ 0 := fun e => wpL_nz 30 t (by rw [hw, e])
      refine .inl ⟨_, _, _, _, hp, (sfail_spec j).mono ?_⟩
      rintro _ w4 ⟨rfl, rfl⟩
      rw [if_neg hj]
      refine .inr ⟨_, rfl, o12.tr s3.only, ?_⟩
      rw [hpf, hw]
      rfl
    | ok l =>
      rw [hw] at hp
      obtain ⟨v, rfl, hsl⟩ := hp
      obtain ⟨p, c, rfl⟩ := hsl.form
      have hf := sfail_spec (w := w3) 0
      rw [if_pos rfl] at hf
      refine .inl ⟨_, _, _, _, rfl, hf.mono ?_⟩
      rintro _ w4 ⟨rfl, rfl⟩
      refine .inl ⟨rfl, o12.tr s3.only, ?_⟩
      rw [hpf, hw]
      exact ⟨_, rfl, hsl.mono fun k hk => ⟨by omega, hk.2⟩, h2.still s3⟩
  · have hk := of_decide_eq_false hk
    have : partsF s = .bad 100 := by
      cases s with
      | nil => rfl
      | cons x r =>
        simp only [partsF]
        rw [if_neg]
        intro e
        exact hk (by simp [e])
    rw [this]
def SyR (w : World) (g : Nat) (r : Rs ((Txt × List Pt) × Ts)) (e : Ending) (w' : World) : Prop := Only g w w' ∧ match r with
  | .ok x => ∃ v, e = .returned (.agg #[.string (S x.1.1), v]) ∧ SlAt w' (fun k => w.heap.size ≤ k ∧ k < w'.heap.size) x.1.2 v ∧ Pz w' g x.2
  | .bad k => e = .panicked (errP k)
theorem redir_spec {g : Nat} {s : Ts} (h : Pz w g s) (hb : TB s) (hs : s ≠ []) : Calls Tryz.prog fn_syntax_parser_redir #[.pointer (some ⟨g, 0, none⟩)] w (SyR w g (redirF s)) := by
  refine syntax_parser_redir_calls _ _ _ ?_
  obtain ⟨x, r, rfl⟩ := List.exists_cons_of_ne_nil hs
  have hg := h.lt
  refine allocK fun w1 r1 s1 z1 => (next_spec (h.still s1)).mono ?_
  rintro _ w2 ⟨rfl, o2, h2⟩
  have hz2 := o2.size
  refine .inl ⟨_, _, rfl, (parts_spec h2 hb.tail).mono ?_⟩
  rintro e3 w3 ⟨o3, hp⟩
  have hz3 := o3.size
  have hrf : redirF (x :: r) = (partsF r).and fun y => .ok ((x.2, y.1), y.2) := rfl
  have o13 : Only g w w3 := (s1.only.tr o2).tr o3
  cases hw : partsF r with
  | bad j =>
    rw [hw] at hp
    refine .inr ⟨_, hp, o13, ?_⟩
    rw [hrf, hw]
    rfl
  | ok y =>
    rw [hw] at hp
    obtain ⟨v, rfl, hsl, h3⟩ := hp
    obtain ⟨p, c, rfl⟩ := hsl.form
    refine .inl ⟨_, _, _, rfl, ?_⟩
    have r3 := (r1.mod o2 (by omega)).mod o3 (by omega)
    refine stK r3 (by simp) (by simp [Value.oneCell']) fun w4 r4 m4 z4 => ⟨_, _, _, _, r4.lget rfl, r4.lget rfl, Mod.trans o13 m4 (fun _ h => h) (fun i hi e => by omega), ?_⟩
    rw [hrf, hw]
    exact ⟨_, rfl, (hsl.mod m4 fun k hk e => by omega).mono fun k hk => ⟨by omega, by omega⟩, h3.mod m4 fun k hk e => by omega⟩
theorem cutEq_spec (s : Txt) : Calls Tryz.prog fn_strings_CutPrefix #[.string (S s), .string (S [61])] w (fun e w' => e = .returned (.tuple #[.string (S (if s.head? = some 61 then s.drop 1 else s)), .bool (decide (s.head? = some 61))]) ∧ w' = w) := by
  refine strings_CutPrefix_calls _ _ _ _ ?_
  have ep : pf [61] s = decide (s.head? = some 61) := by
    rw [pf_isPrefixOf]
    cases s with
    | nil => rfl
    | cons c r =>
      rw [Bool.eq_iff_iff]
      simp [List.isPrefixOf]
      exact eq_comm
  have h : Calls Tryz.prog fn_internal_stringslite_CutPrefix #[.string (S s), .string (S [61])] w (fun e w' => e = .returned (.tuple #[.string (S (if s.head? = some 61 then s.drop 1 else s)), .bool (decide (s.head? = some 61))]) ∧ w' = w) := by
    refine internal_stringslite_CutPrefix_calls _ _ _ _ ?_
    refine (Tryz.stringslite_HasPrefix (S s) (S [61]) _).mono ?_
    rintro _ w1 ⟨rfl, rfl⟩
    have e2 : Lib.hasPrefix (S s).data.toList (S [61]).data.toList = pf [61] s := (pf_isPrefixOf _ _).symm
    rw [e2, ep]
    refine .inl ⟨_, rfl, bsel_of (fun h => ?_) (fun h => ?_)⟩
    · have h : ¬ s.head? = some 61 := by simpa using h
      rw [if_neg h, decide_eq_false h]
      exact ⟨rfl, rfl⟩
    · have h : s.head? = some 61 := by simpa using h
      rw [if_pos h, decide_eq_true h]
      have hl : 1 ≤ s.length := by
        cases s with
        | nil => cases h
        | cons c r => simp
      exact ⟨by decide, by simp only [List.length_cons, List.length_nil]; omega, rfl, rfl⟩
  refine h.mono ?_
  rintro _ w1 ⟨rfl, rfl⟩
  exact .inl ⟨_, _, rfl, rfl, rfl⟩
def asgR (s : Ts) : Option (Rs ((Txt × List Pt) × Ts)) := match s with
  | (_, t) :: r => (asgF t).map fun y => (wpL 30 y.2).and fun l => .ok ((y.1, l), r)
  | [] => none
def SyA (w : World) (g : Nat) (s : Ts) (e : Ending) (w' : World) : Prop := Only g w w' ∧ match asgR s with
  | none => ∃ t p n c, e = .returned (.tuple #[.agg #[.string (S t), .slice p n c], .bool false]) ∧ Pz w' g s
  | some (.ok x) => ∃ p c, e = .returned (.tuple #[.agg #[.string (S x.1.1), .slice p x.1.2.length c], .bool true]) ∧ SlAt w' (fun k => w.heap.size ≤ k ∧ k < w'.heap.size) x.1.2 (.slice p x.1.2.length c) ∧ Pz w' g x.2
  | some (.bad k) => e = .panicked (errP k)
theorem assignment_spec {g : Nat} {k : Nat} {t : Txt} {r : Ts} (h : Pz w g ((k, t) :: r)) (hb : TB ((k, t) :: r)) : Calls Tryz.prog fn_syntax_parser_assignment #[.pointer (some ⟨g, 0, none⟩)] w (SyA w g ((k, t) :: r)) := by
  refine syntax_parser_assignment_calls _ _ _ ?_
  have hg := h.lt
  have hnl := nameN_le t
  refine allocK fun w1 r1 s1 z1 => (peek_spec (h.still s1) 0).mono ?_
  rintro _ w2 ⟨rfl, s2⟩
  refine .inl ⟨_, _, rfl, (Name_spec t hb.head.1).mono ?_⟩
  rintro _ w3 ⟨rfl, s3⟩
  have s13 := (s1.trans s2).trans s3
  have hz13 := s13.size
  have hz23 := s2.size
  have hz33 := s3.size
  refine .inl ⟨_, rfl, stK ((r1.still s2).still s3) (by simp) (by simp [Value.oneCell']) fun w4 r4 m4 z4 => ?_⟩
  have htl : (t.take (nameN t)).length = nameN t := by rw [List.length_take]; omega
  have s4 : Still w w4 := s13.box (Nat.le_refl _) m4
  have h4 : Pz w4 g ((k, t) :: r) := h.still s4
  refine ⟨_, r4.lget rfl, by omega, by simp only [Option.getD_some, List.getElem?_cons_zero]; omega, ?_⟩
  rw [Int.toNat_natCast, htl]
  refine (cutEq_spec (t.drop (nameN t))).mono ?_
  rintro _ w5 ⟨rfl, rfl⟩
  have hhd : (t.drop (nameN t)).head? = t[nameN t]? := by rw [List.head?_drop]
  -- none
  have none : asgF t = none → ∀ (t1 : Txt) (w6 : World), Row w6 w.heap.size 55 ⟨[.string (S t1), .slice none 0 0]⟩ → Still w w6 → SyA w g ((k, t) :: r) (.returned (.tuple #[.agg #[.string (S t1), .slice none 0 0], .bool false])) w6 := by
    intro hno t1 w6 r6 s6
    refine ⟨s6.only, ?_⟩
    have : asgR ((k, t) :: r) = .none := by simp only [asgR, hno, Option.map_none]
    rw [this]
    exact ⟨_, _, _, _, rfl, h.still s6⟩
  refine .inl ⟨_, _, rfl, bsel_of (fun hx => ?_) (fun hx => ?_)⟩
  · have hx : ¬ (t.drop (nameN t)).head? = some 61 := nt hx
    refine ⟨_, _, _, _, r4.lget rfl, r4.lget rfl, stK r4 (by simp [ovw]) (by simp [Value.oneCell']) fun w6 r6 m6 z6 => ⟨_, _, _, _, r6.lget rfl, r6.lget rfl, ?_⟩⟩
    refine none ?_ _ w6 r6 (s4.box (Nat.le_refl _) m6)
    unfold asgF
    rw [if_neg]
    rintro ⟨_, e⟩
    exact hx (by rw [hhd]; exact e)
  have hx : (t.drop (nameN t)).head? = some 61 := nf hx
  refine ⟨_, r4.lget rfl, bsel_of (fun hn => ?_) (fun hn => ?_)⟩
  · have hn : t.take (nameN t) = [] := of_decide_eq_true hn
    rw [hn, List.length_nil] at htl
    refine ⟨_, _, _, _, r4.lget rfl, r4.lget rfl, stK r4 (by simp [ovw]) (by simp [Value.oneCell']) fun w6 r6 m6 z6 => ⟨_, _, _, _, r6.lget rfl, r6.lget rfl, ?_⟩⟩
    refine none ?_ _ w6 r6 (s4.box (Nat.le_refl _) m6)
    unfold asgF
    rw [if_neg]
    rintro ⟨e, _⟩
    omega
  have hn : t.take (nameN t) ≠ [] := of_decide_eq_false hn
  have hn0 : 0 < nameN t := by
    rcases Nat.eq_zero_or_pos (nameN t) with e | e
    · rw [e] at hn
      exact absurd rfl hn
    · exact e
  have hasg : asgF t = some (t.take (nameN t), t.drop (nameN t + 1)) := by
    unfold asgF
    rw [if_pos ⟨hn0, by rw [← hhd]; exact hx⟩]
  have hres : asgR ((k, t) :: r) = some ((wpL 30 (t.drop (nameN t + 1))).and fun l => .ok ((t.take (nameN t), l), r)) := by simp only [asgR, hasg, Option.map_some]
  have e5 : (if (t.drop (nameN t)).head? = some 61 then (t.drop (nameN t)).drop 1 else t.drop (nameN t)) = t.drop (nameN t + 1) := by rw [if_pos hx, List.drop_drop]
  rw [e5]
  have htb := hb.head.1
  refine (Parse_spec (t.drop (nameN t + 1)) (by rw [List.length_drop]; omega)).mono ?_
  rintro e6 w6 ⟨hp, s6⟩
  have hz6 := s6.size
  have hz4 := s4.size
  have s46 := s4.trans s6
  cases hw : wpL 30 (t.drop (nameN t + 1)) with
  | bad j =>
    rw [hw] at hp
    have hj : j ≠ 0 := fun e => wpL_nz 30 _ (by rw [hw, e])
    refine .inl ⟨_, _, _, _, hp, (sfail_spec j).mono ?_⟩
    rintro _ w7 ⟨rfl, rfl⟩
    rw [if_neg hj]
    refine .inr ⟨_, rfl, s46.only, ?_⟩
    rw [hres, hw]
    rfl
  | ok l =>
    rw [hw] at hp
    obtain ⟨v, rfl, hsl⟩ := hp
    obtain ⟨p, c, rfl⟩ := hsl.form
    have hf := sfail_spec (w := w6) 0
    rw [if_pos rfl] at hf
    refine .inl ⟨_, _, _, _, rfl, hf.mono ?_⟩
    rintro _ w7 ⟨rfl, rfl⟩
    refine .inl ⟨rfl, stK (r4.still s6) (by simp [ovw]) (by simp [Value.oneCell']) fun w8 r8 m8 z8 => ?_⟩
    have s8 : Still w w8 := s46.box (Nat.le_refl _) m8
    refine (next_spec (h.still s8)).mono ?_
    rintro _ w9 ⟨rfl, o9, h9⟩
    have hz9 := o9.size
    have r9 := r8.mod o9 (by omega)
    refine .inl ⟨_, _, rfl, _, _, _, _, r9.lget rfl, r9.lget rfl, stK r9 (by simp [ovw]) (by simp [Value.oneCell']) fun w10 r10 m10 z10 => ⟨_, _, _, _, r10.lget rfl, r10.lget rfl, Mod.trans (s8.only.tr o9) m10 (fun _ h => h) (fun i hi e => by omega), ?_⟩⟩
    rw [hres, hw]
    exact ⟨p, c, rfl, (((hsl.mod m8 fun k hk e => by omega).mod o9 fun k hk e => by omega).mod m10 fun k hk e => by omega).mono fun k hk => ⟨by omega, by omega⟩, h9.mod m10 fun k hk e => by omega⟩
def SyP (w : World) (g : Nat) (r : Rs (Nd × Ts)) (e : Ending) (w' : World) : Prop := Only g w w' ∧ match r with
  | .ok x => ∃ cs, e = .returned (.agg ⟨cs⟩) ∧ NdE w' (fun k => w.heap.size ≤ k ∧ k < w'.heap.size) x.1 cs ∧ Pz w' g x.2
  | .bad k => e = .panicked (errP k)
def kidK (f : FuncId) (args : Array Value) (gn : Nat) (w1 : World) (K : World → Prop) (R : Ending → World → Prop) : Prop :=
  ∃ Sw : World → Prop, Sw w1.drew ∧ ∃ (v : Option Addr) (vL vC : Nat), (∀ wq : World, Sw wq → wq.cell? (Addr.mk gn 7 none) = some (.slice v vL vC)) ∧ Calls Tryz.prog f args w1.drew (fun ed w5 => (∃ rKind : Int, ∃ rNot : Bool, ∃ rName : List UInt8, ∃ (rWords : Option Addr) (rWordsL rWordsC : Nat), ∃ (rAssigns : Option Addr) (rAssignsL rAssignsC : Nat), ∃ (rRedirs : Option Addr) (rRedirsL rRedirsC : Nat), ∃ (rOps : Option Addr) (rOpsL rOpsC : Nat), ∃ (rKids : Option Addr) (rKidsL rKidsC : Nat), ed = .returned (.agg #[(.int .i64 rKind), (.bool rNot), (.string (S rName)), (.slice rWords rWordsL rWordsC), (.slice rAssigns rAssignsL rAssignsC), (.slice rRedirs rRedirsL rRedirsC), (.slice rOps rOpsL rOpsC), (.slice rKids rKidsL rKidsC)]) ∧ Sw w5 ∧ letW (w5.alloc (.cells #[(.int .i64 rKind), (.bool rNot), (.string (S rName)), (.slice rWords rWordsL rWordsC), (.slice rAssigns rAssignsL rAssignsC), (.slice rRedirs rRedirsL rRedirsC), (.slice rOps rOpsL rOpsC), (.slice rKids rKidsL rKidsC)] 31)) (fun (w6 : World) => Sw w6 ∧ appK w6 31 8 152 v vL vC (some (Addr.mk w5.heap.size 0 none)) 1 (fun (p1 : Option Addr) (cp : Nat) (w7 : World) => stCells (Addr.mk gn 7 none) K 0 [(.slice p1 (vL + 1) cp)] w7))) ∨ (∃ ch, ed = .panicked ch ∧ R (.panicked ch) w5))
theorem kidK_spec {w0 w1 : World} {g gn B : Nat} {X : Nat → Prop} {x : Nd} {vw va vr vo vk : Value} (nb : NB w0 w1 g gn B X x vw va vr vo vk) {f : FuncId} {args : Array Value} {r : Rs (Nd × Ts)} (hcall : Calls Tryz.prog f args w1.drew (SyP w1.drew g r)) (hn : x.ks.length < 1000000) {K : World → Prop} {R : Ending → World → Prop}
    (hbad : ∀ k w', r = .bad k → Only g w0 w' → R (.panicked (errP k)) w') (hok : ∀ y vk' w' X', r = .ok y → NB w0 w' g gn B X' (x.addK y.1) vw va vr vo vk' → Pz w' g y.2 → Mod (fun k => k = g ∨ B ≤ k) w1 w' → K w') : kidK f args gn w1 K R := by
  obtain ⟨p, c, rfl⟩ := nb.ok.form
  have nb' := nb.still (drew_still w1)
  refine ⟨fun wq => wq.cell? (Addr.mk gn 7 none) = some (.slice p x.ks.length c), nb'.row.lget rfl, p, x.ks.length, c, fun _ h => h, ?_⟩
  refine (hcall).mono ?_
  rintro e5 w5 ⟨o5, hp⟩
  have nb5 := nb'.on o5
  cases hr : r with
  | bad k =>
    rw [hr] at hp
    exact .inr ⟨_, hp, hbad k w5 hr nb5.only⟩
  | ok y =>
    rw [hr] at hp
    obtain ⟨cs, rfl, hnd, h5⟩ := hp
    obtain ⟨pw, cw, pa, ca, pr, cr, po, co, pk, ck, rfl, _⟩ := hnd.outs
    refine .inl ⟨_, _, _, _, _, _, _, _, _, _, _, _, _, _, _, _, _, _, rfl, nb5.row.lget rfl, NB.addK (x := x) (y := y.1) nb' o5 hnd hn fun p' c' w' X' nb6 hm => ?_⟩
    have hB := nb.hB
    have hg := nb.hg
    exact hok y _ w' X' hr nb6 (h5.mod hm fun k hk hb => by omega) (Mod.trans (Mod.trans ((drew_still w1).weaken fun _ h => h.elim) o5 (fun _ h => h) (fun _ _ h => .inl h)) hm (fun _ h => h) (fun _ _ h => .inr h))
def wordK (g gn : Nat) (w1 : World) (K : World → Prop) (R : Ending → World → Prop) : Prop :=
  ∃ Sw : World → Prop, Sw w1.drew ∧ ∃ (v : Option Addr) (vL vC : Nat), (∀ wq : World, Sw wq → wq.cell? (Addr.mk gn 3 none) = some (.slice v vL vC)) ∧ Calls Tryz.prog fn_syntax_parser_parts #[.pointer (some ⟨g, 0, none⟩)] w1.drew (fun ed w5 => (∃ (r : Option Addr) (rL rC : Nat), ed = .returned (.slice r rL rC) ∧ Sw w5 ∧ letW (w5.alloc (.cells #[(.slice r rL rC)] 53)) (fun (w6 : World) => Sw w6 ∧ appK w6 53 1 24 v vL vC (some (Addr.mk w5.heap.size 0 none)) 1 (fun (p1 : Option Addr) (cp : Nat) (w7 : World) => stCells (Addr.mk gn 3 none) K 0 [(.slice p1 (vL + 1) cp)] w7))) ∨ (∃ ch, ed = .panicked ch ∧ R (.panicked ch) w5))
theorem wordK_spec {w0 w1 : World} {g gn B : Nat} {X : Nat → Prop} {x : Nd} {vw va vr vo vk : Value} (nb : NB w0 w1 g gn B X x vw va vr vo vk) {s : Ts} (hz : Pz w1 g s) (hb : TB s) (hn : x.ws.length < 1000000) {K : World → Prop} {R : Ending → World → Prop}
    (hbad : ∀ k w', partsF s = .bad k → Only g w0 w' → R (.panicked (errP k)) w') (hok : ∀ y vw' w' X', partsF s = .ok y → NB w0 w' g gn B X' (x.addW y.1) vw' va vr vo vk → Pz w' g y.2 → Mod (fun k => k = g ∨ B ≤ k) w1 w' → K w') : wordK g gn w1 K R := by
  obtain ⟨p, c, rfl⟩ := nb.ow.form
  have nb' := nb.still (drew_still w1)
  refine ⟨fun wq => wq.cell? (Addr.mk gn 3 none) = some (.slice p x.ws.length c), nb'.row.lget rfl, p, x.ws.length, c, fun _ h => h, ?_⟩
  refine (parts_spec (hz.still (drew_still w1)) hb).mono ?_
  rintro e5 w5 ⟨o5, hp⟩
  have nb5 := nb'.on o5
  cases hr : partsF s with
  | bad k =>
    rw [hr] at hp
    exact .inr ⟨_, hp, hbad k w5 hr nb5.only⟩
  | ok y =>
    rw [hr] at hp
    obtain ⟨v, rfl, hsl, h5⟩ := hp
    obtain ⟨q, d, rfl⟩ := hsl.form
    refine .inl ⟨_, _, _, rfl, nb5.row.lget rfl, NB.addW (x := x) (y := y.1) nb' o5 ⟨_, rfl, hsl⟩ hn fun p' c' w' X' nb6 hm => ?_⟩
    have hB := nb.hB
    have hg := nb.hg
    exact hok y _ w' X' hr nb6 (h5.mod hm fun k hk hb => by omega) (Mod.trans (Mod.trans ((drew_still w1).weaken fun _ h => h.elim) o5 (fun _ h => h) (fun _ _ h => .inl h)) hm (fun _ h => h) (fun _ _ h => .inr h))
def redK (g gn : Nat) (w1 : World) (K : World → Prop) (R : Ending → World → Prop) : Prop :=
  ∃ Sw : World → Prop, Sw w1.drew ∧ ∃ (v : Option Addr) (vL vC : Nat), (∀ wq : World, Sw wq → wq.cell? (Addr.mk gn 5 none) = some (.slice v vL vC)) ∧ Calls Tryz.prog fn_syntax_parser_redir #[.pointer (some ⟨g, 0, none⟩)] w1.drew (fun ed w5 => (∃ rOp : List UInt8, ∃ (rWord : Option Addr) (rWordL rWordC : Nat), ed = .returned (.agg #[(.string (S rOp)), (.slice rWord rWordL rWordC)]) ∧ Sw w5 ∧ letW (w5.alloc (.cells #[(.string (S rOp)), (.slice rWord rWordL rWordC)] 58)) (fun (w6 : World) => Sw w6 ∧ appK w6 58 2 40 v vL vC (some (Addr.mk w5.heap.size 0 none)) 1 (fun (p1 : Option Addr) (cp : Nat) (w7 : World) => stCells (Addr.mk gn 5 none) K 0 [(.slice p1 (vL + 1) cp)] w7))) ∨ (∃ ch, ed = .panicked ch ∧ R (.panicked ch) w5))
theorem redK_spec {w0 w1 : World} {g gn B : Nat} {X : Nat → Prop} {x : Nd} {vw va vr vo vk : Value} (nb : NB w0 w1 g gn B X x vw va vr vo vk) {s : Ts} (hz : Pz w1 g s) (hb : TB s) (hs : s ≠ []) (hn : x.rs.length < 1000000) {K : World → Prop} {R : Ending → World → Prop}
    (hbad : ∀ k w', redirF s = .bad k → Only g w0 w' → R (.panicked (errP k)) w') (hok : ∀ y vr' w' X', redirF s = .ok y → NB w0 w' g gn B X' (x.addR y.1) vw va vr' vo vk → Pz w' g y.2 → Mod (fun k => k = g ∨ B ≤ k) w1 w' → K w') : redK g gn w1 K R := by
  obtain ⟨p, c, rfl⟩ := nb.ord.form
  have nb' := nb.still (drew_still w1)
  refine ⟨fun wq => wq.cell? (Addr.mk gn 5 none) = some (.slice p x.rs.length c), nb'.row.lget rfl, p, x.rs.length, c, fun _ h => h, ?_⟩
  refine (redir_spec (hz.still (drew_still w1)) hb hs).mono ?_
  rintro e5 w5 ⟨o5, hp⟩
  have nb5 := nb'.on o5
  cases hr : redirF s with
  | bad k =>
    rw [hr] at hp
    exact .inr ⟨_, hp, hbad k w5 hr nb5.only⟩
  | ok y =>
    rw [hr] at hp
    obtain ⟨v, rfl, hsl, h5⟩ := hp
    obtain ⟨q, d, rfl⟩ := hsl.form
    refine .inl ⟨_, _, _, _, rfl, nb5.row.lget rfl, NB.addR (x := x) (y := y.1) nb' o5 ⟨_, rfl, hsl⟩ hn fun p' c' w' X' nb6 hm => ?_⟩
    have hB := nb.hB
    have hg := nb.hg
    exact hok y _ w' X' hr nb6 (h5.mod hm fun k hk hb => by omega) (Mod.trans (Mod.trans ((drew_still w1).weaken fun _ h => h.elim) o5 (fun _ h => h) (fun _ _ h => .inl h)) hm (fun _ h => h) (fun _ _ h => .inr h))
def NExitA (a : Addr) (gr : Nat) (w : World) (R : Ending → World → Prop) : Prop :=
  ∃ vKind : Int, ∃ vNot : Bool, ∃ vName : List UInt8, ∃ (vWords : Option Addr) (vWordsL vWordsC : Nat), ∃ (vAssigns : Option Addr) (vAssignsL vAssignsC : Nat), ∃ (vRedirs : Option Addr) (vRedirsL vRedirsC : Nat), ∃ (vOps : Option Addr) (vOpsL vOpsC : Nat), ∃ (vKids : Option Addr) (vKidsL vKidsC : Nat), w.cell? a = some (.int .i64 vKind) ∧ w.cell? (a.add 1) = some (.bool vNot) ∧ w.cell? (a.add 2) = some (.string (S vName)) ∧ w.cell? (a.add 3) = some (.slice vWords vWordsL vWordsC) ∧ w.cell? (a.add 4) = some (.slice vAssigns vAssignsL vAssignsC) ∧ w.cell? (a.add 5) = some (.slice vRedirs vRedirsL vRedirsC) ∧ w.cell? (a.add 6) = some (.slice vOps vOpsL vOpsC) ∧ w.cell? (a.add 7) = some (.slice vKids vKidsL vKidsC) ∧ stCells (Addr.mk gr 0 none) (fun (w7 : World) => ∃ vKind1 : Int, ∃ vNot1 : Bool, ∃ vName1 : List UInt8, ∃ (vWords1 : Option Addr) (vWordsL1 vWordsC1 : Nat), ∃ (vAssigns1 : Option Addr) (vAssignsL1 vAssignsC1 : Nat), ∃ (vRedirs1 : Option Addr) (vRedirsL1 vRedirsC1 : Nat), ∃ (vOps1 : Option Addr) (vOpsL1 vOpsC1 : Nat), ∃ (vKids1 : Option Addr) (vKidsL1 vKidsC1 : Nat), w7.cell? (Addr.mk gr 0 none) = some (.int .i64 vKind1) ∧ w7.cell? (Addr.mk gr 1 none) = some (.bool vNot1) ∧ w7.cell? (Addr.mk gr 2 none) = some (.string (S vName1)) ∧ w7.cell? (Addr.mk gr 3 none) = some (.slice vWords1 vWordsL1 vWordsC1) ∧ w7.cell? (Addr.mk gr 4 none) = some (.slice vAssigns1 vAssignsL1 vAssignsC1) ∧ w7.cell? (Addr.mk gr 5 none) = some (.slice vRedirs1 vRedirsL1 vRedirsC1) ∧ w7.cell? (Addr.mk gr 6 none) = some (.slice vOps1 vOpsL1 vOpsC1) ∧ w7.cell? (Addr.mk gr 7 none) = some (.slice vKids1 vKidsL1 vKidsC1) ∧ R (.returned (.agg #[(.int .i64 vKind1), (.bool vNot1), (.string (S vName1)), (.slice vWords1 vWordsL1 vWordsC1), (.slice vAssigns1 vAssignsL1 vAssignsC1), (.slice vRedirs1 vRedirsL1 vRedirsC1), (.slice vOps1 vOpsL1 vOpsC1), (.slice vKids1 vKidsL1 vKidsC1)])) w7) 0 [(.int .i64 vKind), (.bool vNot), (.string (S vName)), (.slice vWords vWordsL vWordsC), (.slice vAssigns vAssignsL vAssignsC), (.slice vRedirs vRedirsL vRedirsC), (.slice vOps vOpsL vOpsC), (.slice vKids vKidsL vKidsC)] w
theorem nExitA_spec {w0 : World} {g B : Nat} {a : Addr} {x : Nd} {cs : List Value} {R : Ending → World → Prop} (hc : CellsAt w a cs) (hn : NdE w (fun k => B ≤ k ∧ k < w.heap.size) x cs) (ho : Only g w0 w) (hres : Row w w0.heap.size 31 ⟨zcell⟩) (hB : w0.heap.size < B)
    (hR : ∀ w' cs, Mod (fun k => k = w0.heap.size) w w' → Only g w0 w' → NdE w' (fun k => w0.heap.size ≤ k ∧ k < w'.heap.size) x cs → R (.returned (.agg ⟨cs⟩)) w') : NExitA a w0.heap.size w R := by
  obtain ⟨pw, cw, pa, ca, pr, cr, po, co, pk, ck, rfl, _⟩ := hn.outs
  refine ⟨_, _, _, _, _, _, _, _, _, _, _, _, _, _, _, _, _, _, hc.zero, hc 1 _ rfl, hc 2 _ rfl, hc 3 _ rfl, hc 4 _ rfl, hc 5 _ rfl, hc 6 _ rfl, hc 7 _ rfl, stK hres (by simp) (by simp [Value.oneCell']) fun w' r' m' z' => ?_⟩
  refine ⟨_, _, _, _, _, _, _, _, _, _, _, _, _, _, _, _, _, _, r'.lget rfl, r'.lget rfl, r'.lget rfl, r'.lget rfl, r'.lget rfl, r'.lget rfl, r'.lget rfl, r'.lget rfl, hR w' _ m' (Mod.trans ho m' (fun _ h => h) (fun i hi e => by omega)) ?_⟩
  exact (hn.mod m' fun k hk e => by omega).mono fun k hk => ⟨by omega, by omega⟩
def CmdS (L : Nat) : Prop := ∀ (w : World) (g : Nat) (s : Ts), Pz w g s → TB s → Calls Tryz.prog fn_syntax_parser_command #[.pointer (some ⟨g, 0, none⟩), .int .i64 (31 - (L : Int))] w (SyP w g ((lvS L).1 s))
theorem pipeN_two {neg : Bool} {ks : List Nd} (h : ¬ (ks.length = 1 ∧ neg = false)) : pipeN neg ks = .mk 1 neg [] [] [] [] [] ks := by
  match ks with
  | [] => rfl
  | [k] =>
    cases neg with
    | true => rfl
    | false => exact absurd ⟨rfl, rfl⟩ h
  | a :: b :: r => rfl
theorem pipe_of {L : Nat} (hc : CmdS L) {g : Nat} {s : Ts} (h : Pz w g s) (hb : TB s) : Calls Tryz.prog fn_syntax_parser_pipe #[.pointer (some ⟨g, 0, none⟩), .int .i64 (31 - (L : Int))] w (SyP w g (pipeF (lvS L).1 s)) := by
  refine syntax_parser_pipe_calls _ _ _ _ ?_
  have hg := h.lt
  have he := (lvS_eats L).1
  have hsf := (lvS_suf L).1
  refine allocK fun w1 r1 s1 z1 => (take_spec (h.still s1) 0 (t := tBang) (by decide)).mono ?_
  rintro _ w2 ⟨rfl, o2, h2⟩
  have hz2 := o2.size
  refine .inl ⟨_, rfl, allocK fun w3 r3 s3 z3 => stK r3 (by simp) (by simp [Value.oneCell']) fun w4 r4 m4 z4 => ?_⟩
  have r4 : Row w4 w2.heap.size 31 ⟨ncell (.mk 1 (isT 0 tBang s) [] [] [] [] [] []) (.slice none 0 0) (.slice none 0 0) (.slice none 0 0) (.slice none 0 0) (.slice none 0 0)⟩ := r4
  have res4 : Row w4 w.heap.size 31 ⟨zcell⟩ := ((r1.mod o2 (by omega)).still s3).mod m4 (by omega)
  have o4 : Only g w w4 := Mod.trans ((s1.only.tr o2).tr s3.only) m4 (fun _ h => h) (fun i hi e => by omega)
  have h4 := (h2.still s3).mod m4 (by intro k hk e; omega)
  have hb4 : TB (if isT 0 tBang s = true then s.tail else s) := hb.suf (ite_suf _ s)
  have nb4 := NB.mk0 (B := w.heap.size + 1) r4 o4 hg (by omega) (by omega) ⟨rfl, rfl, rfl, rfl, rfl⟩
  have hpf : pipeF (lvS L).1 s = ((lvS L).1 (if isT 0 tBang s = true then s.tail else s)).and fun x => manyF (pipeS (lvS L).1 (isT 0 tBang s)) [x.1] x.2 := rfl
  rw [hpf]
  clear hpf
  generalize (if isT 0 tBang s = true then s.tail else s) = s0 at *
  generalize isT 0 tBang s = neg at *
  have hs0 := hb4.1
  refine kidK_spec nb4 (hc _ _ _ (h4.still (drew_still _)) hb4) (show 0 < 1000000 by decide) (fun k w' hr o => ⟨o, ?_⟩) (fun y vk5 w5 X5 hr nb5 h5 m5 => ?_)
  · rw [hr]
    rfl
  rw [hr]
  have res5 := res4.mod m5 (by intro e; omega)
  have hy1 := he _ _ hr
  have hy2 := hsf _ _ hr
  refine ⟨fun w9 => ∃ s9 ks vk X, NB w w9 g w2.heap.size (w.heap.size + 1) X (.mk 1 neg [] [] [] [] [] ks) (.slice none 0 0) (.slice none 0 0) (.slice none 0 0) (.slice none 0 0) vk ∧ Row w9 w.heap.size 31 ⟨zcell⟩ ∧ Pz w9 g s9 ∧ s9 <:+ s0 ∧ ks.length + s9.length ≤ s0.length ∧ manyF (pipeS (lvS L).1 neg) ks s9 = manyF (pipeS (lvS L).1 neg) [y.1] y.2, pzLen g, ⟨y.2, [y.1], vk5, X5, nb5, res5, h5, hy2, by simp only [List.length_cons, List.length_nil]; omega, rfl⟩, ?_⟩
  rintro _ w9 ⟨s9, ks, vk, X, nb9, res9, h9, hsf9, hlen, heq⟩
  simp only [Rs.and]
  rw [← heq, manyF_step (pipeS_sinks he _)]
  clear heq
  refine (take_spec h9 1 (t := tPipe) (by decide)).mono ?_
  rintro _ w10 ⟨rfl, o10, h10⟩
  refine .inl ⟨_, rfl, bsel_of (fun hx => ?_) (fun hx => ?_)⟩
  · rw [hx, if_pos rfl] at h10
    have hps : pipeS (lvS L).1 neg ks s9 = ((lvS L).1 (linesF s9.tail)).and fun x => .ok (.inl (ks ++ [x.1], x.2)) := by unfold pipeS; rw [if_pos hx]
    rw [hps]
    have htl := isT_len hx
    have hll := linesF_le s9.tail
    have hsuf : linesF s9.tail <:+ s0 := (linesF_suf _).trans ((tail_suf _).trans hsf9)
    refine (lines_spec h10).mono ?_
    rintro _ w11 ⟨rfl, o11, h11⟩
    have nb11 := (nb9.on o10).on o11
    have res11 := (res9.mod o10 (by omega)).mod o11 (by omega)
    refine .inl ⟨rfl, kidK_spec nb11 (hc _ _ _ (h11.still (drew_still _)) (hb4.suf hsuf)) (show ks.length < 1000000 by omega) (fun k w' hr o => ⟨o, ?_⟩) (fun z vk12 w12 X12 hr nb12 h12 m12 => ?_)⟩
    · rw [hr]
      rfl
    have hz1 := he _ _ hr
    rw [hr]
    refine ⟨⟨z.2, ks ++ [z.1], vk12, X12, nb12, res11.mod m12 (by intro e; omega), h12, (hsf _ _ hr).trans hsuf, by simp only [List.length_append, List.length_cons, List.length_nil]; omega, ?_⟩, by rw [h12.len, h9.len]; omega⟩
    rfl
  · rw [hx, if_neg (by decide)] at h10
    have hps : pipeS (lvS L).1 neg ks s9 = .ok (.inr (pipeN neg ks, s9)) := by unfold pipeS; rw [if_neg (by rw [hx]; decide)]
    rw [hps]
    have nb10 := nb9.on o10
    have res10 := res9.mod o10 (by omega)
    obtain ⟨p, c, rfl⟩ := nb10.ok.form
    refine ⟨fun w18 => w18 = w10 ∧ ¬ (ks.length = 1 ∧ neg = false), ⟨fun b w16 => w16 = w10 ∧ (b = true ↔ ks.length = 1 ∧ neg = false), ⟨p, ks.length, c, nb10.row.lget rfl, bsel_of (fun e => ⟨neg, nb10.row.lget rfl, rfl, ?_⟩) (fun e => ⟨rfl, fun h => (by cases h), fun h => absurd h.1 (by have := of_decide_eq_false e; omega)⟩)⟩, ?_⟩, ?_⟩
    · have := of_decide_eq_true e
      cases neg with
      | true => exact ⟨fun h => (by cases h), fun h => (by cases h.2)⟩
      | false => exact ⟨fun _ => ⟨by omega, rfl⟩, fun _ => rfl⟩
    · rintro b _ w16 ⟨rfl, hb⟩
      refine bsel_of (fun hbt => ?_) (fun hbf => ⟨rfl, fun h => by rw [hb.2 h] at hbf; cases hbf⟩)
      obtain ⟨e1, e2⟩ := hb.1 hbt
      obtain ⟨k, rfl⟩ : ∃ k, ks = [k] := by
        match ks, e1 with
        | [k], _ => exact ⟨k, rfl⟩
      obtain ⟨q, cs, rfl, _, hnd, hcs⟩ := nb10.ok.at.get (i := 0) rfl
      refine ⟨some q, _, c, nb10.row.lget rfl, by decide, show (0 : Int) < ((1 : Nat) : Int) by decide, nExitA_spec hcs hnd nb10.only res10 (Nat.lt_succ_self _) fun w' cs' m' o' hn' => ⟨o', ?_⟩⟩
      have : pipeN neg [k] = k := by rw [e2]; rfl
      rw [this]
      exact ⟨_, rfl, hn', h10.mod m' fun j hj e => by omega⟩
    · rintro _ w18 ⟨rfl, hno⟩
      refine nExit_spec nb10 res10 (Nat.lt_succ_self _) fun w' cs' m' o' hn' => ⟨o', ?_⟩
      rw [pipeN_two hno]
      exact ⟨_, rfl, hn', h10.mod m' fun j hj e => by omega⟩
theorem nExit_row {w0 : World} {g gn B : Nat} {x : Nd} {cs : List Value} {R : Ending → World → Prop} (hr : Row w gn 31 ⟨cs⟩) (hn : NdE w (fun k => B ≤ k ∧ k < w.heap.size) x cs) (ho : Only g w0 w) (hres : Row w w0.heap.size 31 ⟨zcell⟩) (hB : w0.heap.size < B)
    (hR : ∀ w' cs, Mod (fun k => k = w0.heap.size) w w' → Only g w0 w' → NdE w' (fun k => w0.heap.size ≤ k ∧ k < w'.heap.size) x cs → R (.returned (.agg ⟨cs⟩)) w') : NExit gn w0.heap.size w R := by
  obtain ⟨pw, cw, pa, ca, pr, cr, po, co, pk, ck, rfl, _⟩ := hn.outs
  refine ⟨_, _, _, _, _, _, _, _, _, _, _, _, _, _, _, _, _, _, hr.lget rfl, hr.lget rfl, hr.lget rfl, hr.lget rfl, hr.lget rfl, hr.lget rfl, hr.lget rfl, hr.lget rfl, stK hres (by simp) (by simp [Value.oneCell']) fun w' r' m' z' => ?_⟩
  refine ⟨_, _, _, _, _, _, _, _, _, _, _, _, _, _, _, _, _, _, r'.lget rfl, r'.lget rfl, r'.lget rfl, r'.lget rfl, r'.lget rfl, r'.lget rfl, r'.lget rfl, r'.lget rfl, hR w' _ m' (Mod.trans ho m' (fun _ h => h) (fun i hi e => by omega)) ?_⟩
  exact (hn.mod m' fun k hk e => by omega).mono fun k hk => ⟨by omega, by omega⟩
theorem andB_at (s : Ts) : atB 1 [tAnd, tOr] s = andB s := by
  rw [atB_cons (by decide), atB_one (by decide)]
  rfl
theorem andN_two {os : List Txt} {ks : List Nd} (h : os ≠ []) : andN os ks = .mk 2 false [] [] [] [] os ks := by
  cases os with
  | nil => exact absurd rfl h
  | cons a r => rfl
theorem andOr_of {L : Nat} (hc : CmdS L) {g : Nat} {s : Ts} (h : Pz w g s) (hb : TB s) : Calls Tryz.prog fn_syntax_parser_andOr #[.pointer (some ⟨g, 0, none⟩), .int .i64 (31 - (L : Int))] w (SyP w g (andF (lvS L).1 s)) := by
  refine syntax_parser_andOr_calls _ _ _ _ ?_
  have hg := h.lt
  have he := (lvS_eats L).1
  have hep := pipeF_eats he
  have hsp := pipeF_suf (lvS_suf L).1
  have hs0 := hb.1
  have haf : andF (lvS L).1 s = (pipeF (lvS L).1 s).and fun x => manyF (andS (lvS L).1) ([], [x.1]) x.2 := rfl
  rw [haf]
  clear haf
  refine allocK fun w1 r1 s1 z1 => (pipe_of hc (h.still s1) hb).mono ?_
  rintro e2 w2 ⟨o2, hp⟩
  have hz2 := o2.size
  cases hr : pipeF (lvS L).1 s with
  | bad k =>
    rw [hr] at hp
    exact .inr ⟨_, hp, s1.only.tr o2, rfl⟩
  | ok y =>
  rw [hr] at hp
  obtain ⟨cs, rfl, hnd, h2⟩ := hp
  have hy1 := hep _ _ hr
  have hy2 := hsp _ _ hr
  simp only [Rs.and]
  obtain ⟨pw, cw, pa, ca, pr, cr, po, co, pk, ck, rfl, _⟩ := hnd.outs
  refine .inl ⟨_, _, _, _, _, _, _, _, _, _, _, _, _, _, _, _, _, _, rfl, allocK fun w3 r3 s3 z3 => allocK fun w4 r4 s4 z4 => stK r4 (by simp) (by simp [Value.oneCell']) fun w5 r5 m5 z5 => ?_⟩
  have r5 : Row w5 w3.heap.size 31 ⟨ncell (.mk 2 false [] [] [] [] [] [y.1]) (.slice none 0 0) (.slice none 0 0) (.slice none 0 0) (.slice none 0 0) (.slice (some ⟨w2.heap.size, 0, none⟩) 1 1)⟩ := r5
  have res5 : Row w5 w.heap.size 31 ⟨zcell⟩ := (((r1.mod o2 (by omega)).still s3).still s4).mod m5 (by omega)
  have r3' := (r3.still s4).mod m5 (by omega)
  have o5 : Only g w w5 := Mod.trans (((s1.only.tr o2).tr s3.only).tr s4.only) m5 (fun _ h => h) (fun i hi e => by omega)
  have h5 := ((h2.still s3).still s4).mod m5 (by intro k hk e; omega)
  have hnd5 : NdE w5 (fun k => w.heap.size + 1 ≤ k ∧ k < w5.heap.size ∧ k ≠ w3.heap.size ∧ k ≠ w2.heap.size) y.1 _ := (((hnd.still s3).still s4).mod m5 (fun k hk e => by omega)).mono fun k hk => ⟨by omega, by omega, by omega, by omega⟩
  have nb5 := NB.mkK (B := w.heap.size + 1) r5 r3' hnd5 o5 hg (by omega) (by omega) (by omega) (by omega) ⟨rfl, rfl, rfl, rfl, rfl⟩
  refine ⟨fun w9 => ∃ s9 os ks vo vk X, NB w w9 g w3.heap.size (w.heap.size + 1) X (.mk 2 false [] [] [] [] os ks) (.slice none 0 0) (.slice none 0 0) (.slice none 0 0) vo vk ∧ Row w9 w.heap.size 31 ⟨zcell⟩ ∧ Pz w9 g s9 ∧ s9 <:+ s ∧ ks.length = os.length + 1 ∧ ks.length + s9.length ≤ s.length ∧ manyF (andS (lvS L).1) (os, ks) s9 = manyF (andS (lvS L).1) ([], [y.1]) y.2, pzLen g, ⟨y.2, [], [y.1], _, _, _, nb5, res5, h5, hy2, rfl, by simp only [List.length_cons, List.length_nil]; omega, rfl⟩, ?_⟩
  rintro _ w6 ⟨s9, os, ks, vo, vk, X, nb6, res6, h6, hsf9, hko, hlen, heq⟩
  rw [← heq, manyF_step (andS_sinks he)]
  clear heq
  refine allocK fun w7 r7 s7 z7 => (at_spec (h6.still s7) 1 (StrsAt.row (l := [tAnd, tOr]) r7) (by decide)).mono ?_
  rintro _ w8 ⟨rfl, s8⟩
  rw [andB_at]
  have s68 := s7.trans s8
  have nb8 := nb6.still s68
  have res8 := res6.still s68
  have h8 := h6.still s68
  refine .inl ⟨_, rfl, bsel_of (fun hx => ?_) (fun hx => ?_)⟩
  · obtain ⟨x, r, rfl⟩ : ∃ x r, s9 = x :: r := by
      cases s9 with
      | nil => cases hx
      | cons x r => exact ⟨x, r, rfl⟩
    have has : andS (lvS L).1 (os, ks) (x :: r) = (pipeF (lvS L).1 (linesF r)).and fun z => .ok (.inl ((os ++ [x.2], ks ++ [z.1]), z.2)) := by
      show (if andB (x :: r) = true then _ else _) = _
      rw [if_pos hx]
    rw [has]
    simp only [List.length_cons] at hlen
    have hll := linesF_le r
    have hsuf : linesF r <:+ s := (linesF_suf _).trans ((List.suffix_cons x r).trans hsf9)
    obtain ⟨po, co, rfl⟩ := nb8.oo.form
    have nb8' := nb8.still (drew_still w8)
    refine ⟨fun wq => wq.cell? (Addr.mk w3.heap.size 6 none) = some (.slice po os.length co), nb8'.row.lget rfl, po, os.length, co, fun _ h => h, (next_spec (h8.still (drew_still w8))).mono ?_⟩
    rintro _ w9 ⟨rfl, o9, h9⟩
    have nb9 := nb8'.on o9
    refine .inl ⟨_, _, rfl, nb9.row.lget rfl, NB.addO (y := x.2) nb8' o9 rfl (show os.length < 1000000 by omega) fun p' c' w12 X' nb12 m12 => ?_⟩
    have h12 := h9.mod m12 (fun k hk hb => by omega)
    have res12 := ((res8.still (drew_still w8)).mod o9 (by omega)).mod m12 (by omega)
    refine (lines_spec h12).mono ?_
    rintro _ w13 ⟨rfl, o13, h13⟩
    have nb13 := nb12.on o13
    refine .inl ⟨rfl, kidK_spec nb13 (pipe_of hc (h13.still (drew_still _)) (hb.suf hsuf)) (show ks.length < 1000000 by omega) (fun k w' hr o => ⟨o, ?_⟩) (fun z vk17 w17 X17 hr nb17 h17 m17 => ?_)⟩
    · rw [hr]
      rfl
    have hz1 := hep _ _ hr
    rw [hr]
    refine ⟨⟨z.2, os ++ [x.2], ks ++ [z.1], _, vk17, X17, nb17, (res12.mod o13 (by omega)).mod m17 (by intro e; omega), h17, (hsp _ _ hr).trans hsuf, by simp only [List.length_append, List.length_cons, List.length_nil]; omega, by simp only [List.length_append, List.length_cons, List.length_nil]; omega, rfl⟩, by rw [h17.len, h6.len]; simp only [List.length_cons]; omega⟩
  · have has : andS (lvS L).1 (os, ks) s9 = .ok (.inr (andN os ks, s9)) := by
      cases s9 with
      | nil => rfl
      | cons x r =>
        show (if andB (x :: r) = true then _ else _) = _
        rw [if_neg (by rw [hx]; decide)]
    rw [has]
    simp only [Rs.and]
    obtain ⟨po, co, rfl⟩ := nb8.oo.form
    obtain ⟨pk, ck, rfl⟩ := nb8.ok.form
    refine ⟨po, os.length, co, nb8.row.lget rfl, bsel_of (fun e => ?_) (fun e => ?_)⟩
    · have e : os = [] := List.eq_nil_of_length_eq_zero (by have := of_decide_eq_true e; omega)
      subst e
      obtain ⟨k, rfl⟩ : ∃ k, ks = [k] := by
        match ks, hko with
        | [k], _ => exact ⟨k, rfl⟩
      obtain ⟨q, cs, rfl, _, hnd, hcs⟩ := nb8.ok.at.get (i := 0) rfl
      exact ⟨some q, _, ck, nb8.row.lget rfl, by decide, show (0 : Int) < ((1 : Nat) : Int) by decide, nExitA_spec hcs hnd nb8.only res8 (Nat.lt_succ_self _) fun w' cs' m' o' hn' => ⟨o', _, rfl, hn', h8.mod m' fun j hj e => by omega⟩⟩
    · have e : os ≠ [] := by
        rintro rfl
        exact of_decide_eq_false e rfl
      refine nExit_spec nb8 res8 (Nat.lt_succ_self _) fun w' cs' m' o' hn' => ⟨o', ?_⟩
      rw [andN_two e]
      exact ⟨_, rfl, hn', h8.mod m' fun j hj e => by omega⟩
theorem list_of {L : Nat} (hc : CmdS L) {g : Nat} {s : Ts} (h : Pz w g s) (hb : TB s) : Calls Tryz.prog fn_syntax_parser_list #[.pointer (some ⟨g, 0, none⟩), .int .i64 (31 - (L : Int))] w (SyP w g (listF (lvS L).1 s)) := by
  refine syntax_parser_list_calls _ _ _ _ ?_
  have hg := h.lt
  have he := (lvS_eats L).1
  have hea := andF_eats he
  have hsa := andF_suf (lvS_suf L).1
  have hs0 := hb.1
  refine allocK fun w1 r1 s1 z1 => allocK fun w2 r2 s2 z2 => stK r2 (by simp) (by simp [Value.oneCell']) fun w3 r3 m3 z3 => ?_
  have r3 : Row w3 w1.heap.size 31 ⟨ncell (.mk 3 false [] [] [] [] [] []) (.slice none 0 0) (.slice none 0 0) (.slice none 0 0) (.slice none 0 0) (.slice none 0 0)⟩ := r3
  have res3 : Row w3 w.heap.size 31 ⟨zcell⟩ := (r1.still s2).mod m3 (by omega)
  have s3 : Still w w3 := (s1.trans s2).box (by omega) m3
  have nb3 := NB.mk0 (B := w.heap.size + 1) r3 s3.only hg (by omega) (by omega) ⟨rfl, rfl, rfl, rfl, rfl⟩
  refine (lines_spec (h.still s3)).mono ?_
  rintro _ w4 ⟨rfl, o4, h4⟩
  have hll := linesF_le s
  refine .inl ⟨rfl, fun w9 => ∃ s9 ks vk X, NB w w9 g w1.heap.size (w.heap.size + 1) X (listN ks) (.slice none 0 0) (.slice none 0 0) (.slice none 0 0) (.slice none 0 0) vk ∧ Row w9 w.heap.size 31 ⟨zcell⟩ ∧ Pz w9 g s9 ∧ s9 <:+ s ∧ ks.length + s9.length ≤ s.length ∧ manyF (listS (lvS L).1) ks s9 = listF (lvS L).1 s, pzLen g, ⟨linesF s, [], _, _, nb3.on o4, res3.mod o4 (by omega), h4, linesF_suf s, by simp only [List.length_nil]; omega, rfl⟩, ?_⟩
  rintro _ w5 ⟨s9, ks, vk, X, nb5, res5, h5, hsf9, hlen, heq⟩
  rw [← heq, manyF_step (listS_sinks he)]
  clear heq
  refine (ends_spec h5).mono ?_
  rintro _ w6 ⟨rfl, s6⟩
  have nb6 := nb5.still s6
  have res6 := res5.still s6
  have h6 := h5.still s6
  refine .inl ⟨_, rfl, bsel_of (fun hx => ?_) (fun hx => ?_)⟩
  · have hx : endsF s9 = false := by simpa using hx
    have hls : listS (lvS L).1 ks s9 = (andF (lvS L).1 s9).and fun x => if isT 1 tSemi x.2 = true then .ok (.inl (ks ++ [x.1], linesF x.2.tail)) else if isT 2 [10] x.2 = true then .ok (.inl (ks ++ [x.1], linesF x.2)) else .ok (.inr (listN (ks ++ [x.1]), x.2)) := by
      unfold listS
      rw [if_neg (by rw [hx]; decide)]
    rw [hls]
    refine kidK_spec nb6 (andOr_of hc (h6.still (drew_still _)) (hb.suf hsf9)) (show ks.length < 1000000 by omega) (fun k w' hr o => ⟨o, ?_⟩) (fun y vk10 w10 X10 hr nb10 h10 m10 => ?_)
    · rw [hr]
      rfl
    have hz1 := hea _ _ hr
    have hsy := (hsa _ _ hr).trans hsf9
    rw [hr]
    simp only [Rs.and]
    have res10 := res6.mod m10 (by intro e; omega)
    have hl1 := linesF_le y.2
    have hl2 := linesF_le y.2.tail
    have ht := tail_le y.2
    refine (take_spec h10 1 (t := tSemi) (by decide)).mono ?_
    rintro _ w11 ⟨rfl, o11, h11⟩
    have nb11 := nb10.on o11
    have res11 := res10.mod o11 (by omega)
    refine .inl ⟨_, rfl, bsel_of (fun h1 => ?_) (fun h1 => ?_)⟩
    · have h1 : isT 1 tSemi y.2 = false := by simpa using h1
      rw [h1, if_neg (by decide)] at h11
      refine allocK fun w12 r12 s12 z12 => (at_spec (h11.still s12) 2 (StrsAt.row (l := [[10]]) r12) (by decide)).mono ?_
      rintro _ w13 ⟨rfl, s13⟩
      rw [atB_one (by decide)]
      have s113 := s12.trans s13
      have nb13 := nb11.still s113
      have res13 := res11.still s113
      have h13 := h11.still s113
      refine .inl ⟨_, rfl, bsel_of (fun h2 => ?_) (fun h2 => ?_)⟩
      · have h2 : isT 2 [10] y.2 = false := by simpa using h2
        refine nExit_spec nb13 res13 (Nat.lt_succ_self _) fun w' cs' m' o' hn' => ⟨o', ?_⟩
        rw [if_neg (by rw [h1]; decide), if_neg (by rw [h2]; decide)]
        exact ⟨_, rfl, hn', h13.mod m' fun j hj e => by omega⟩
      · have h2 : isT 2 [10] y.2 = true := by simpa using h2
        refine (lines_spec h13).mono ?_
        rintro _ w15 ⟨rfl, o15, h15⟩
        refine .inl ⟨rfl, ⟨linesF y.2, ks ++ [y.1], vk10, X10, nb13.on o15, res13.mod o15 (by omega), h15, (linesF_suf _).trans hsy, by simp only [List.length_append, List.length_cons, List.length_nil]; omega, ?_⟩, by rw [h15.len, h5.len]; omega⟩
        rw [if_neg (by rw [h1]; decide), if_pos h2]
    · have h1 : isT 1 tSemi y.2 = true := by simpa using h1
      rw [h1, if_pos rfl] at h11
      refine (lines_spec h11).mono ?_
      rintro _ w16 ⟨rfl, o16, h16⟩
      refine .inl ⟨rfl, ⟨linesF y.2.tail, ks ++ [y.1], vk10, X10, nb11.on o16, res11.mod o16 (by omega), h16, (linesF_suf _).trans ((tail_suf _).trans hsy), by simp only [List.length_append, List.length_cons, List.length_nil]; omega, ?_⟩, by rw [h16.len, h5.len]; omega⟩
      rw [if_pos h1]
  · have hx : endsF s9 = true := by simpa using hx
    have hls : listS (lvS L).1 ks s9 = .ok (.inr (listN ks, s9)) := by
      unfold listS
      rw [if_pos hx]
    rw [hls]
    exact nExit_spec nb6 res6 (Nat.lt_succ_self _) fun w' cs' m' o' hn' => ⟨o', _, rfl, hn', h6.mod m' fun j hj e => by omega⟩
theorem some_of {L : Nat} (hc : CmdS L) {g : Nat} {s : Ts} (h : Pz w g s) (hb : TB s) : Calls Tryz.prog fn_syntax_parser_some #[.pointer (some ⟨g, 0, none⟩), .int .i64 (31 - (L : Int))] w (SyP w g (someF (lvS L).1 s)) := by
  refine syntax_parser_some_calls _ _ _ _ ?_
  have hg := h.lt
  have hsf : someF (lvS L).1 s = (listF (lvS L).1 s).and fun x => if x.1.ks = [] then .bad 100 else .ok x := rfl
  rw [hsf]
  refine allocK fun w1 r1 s1 z1 => (list_of hc (h.still s1) hb).mono ?_
  rintro e2 w2 ⟨o2, hp⟩
  have hz2 := o2.size
  have o12 := s1.only.tr o2
  cases hr : listF (lvS L).1 s with
  | bad k =>
    rw [hr] at hp
    exact .inr ⟨_, hp, o12, rfl⟩
  | ok y =>
  rw [hr] at hp
  obtain ⟨cs, rfl, hnd, h2⟩ := hp
  simp only [Rs.and]
  obtain ⟨pw, cw, pa, ca, pr, cr, po, co, pk, ck, rfl, _⟩ := hnd.outs
  refine .inl ⟨_, _, _, _, _, _, _, _, _, _, _, _, _, _, _, _, _, _, rfl, allocK fun w3 r3 s3 z3 => stK r3 (by simp) (by simp [Value.oneCell']) fun w4 r4 m4 z4 => ?_⟩
  have r4 : Row w4 w2.heap.size 31 ⟨ncell y.1 (.slice pw y.1.ws.length cw) (.slice pa y.1.as.length ca) (.slice pr y.1.rs.length cr) (.slice po y.1.os.length co) (.slice pk y.1.ks.length ck)⟩ := r4
  have res4 : Row w4 w.heap.size 31 ⟨zcell⟩ := ((r1.mod o2 (by omega)).still s3).mod m4 (by omega)
  have o4 : Only g w w4 := Mod.trans (o12.tr s3.only) m4 (fun _ h => h) (fun i hi e => by omega)
  have h4 := (h2.still s3).mod m4 (by intro k hk e; omega)
  have hnd4 : NdE w4 (fun k => w.heap.size + 1 ≤ k ∧ k < w4.heap.size) y.1 _ := ((hnd.still s3).mod m4 (fun k hk e => by omega)).mono fun k hk => ⟨by omega, by omega⟩
  refine ⟨_, _, _, r4.lget rfl, wantK (fun hk => ?_) (fun hk => ⟨o4, ?_⟩)⟩
  · have hk : y.1.ks ≠ [] := by
      intro e
      have := of_decide_eq_true hk
      rw [e] at this
      exact absurd this (by decide)
    rw [if_neg hk]
    exact nExit_row r4 hnd4 o4 res4 (Nat.lt_succ_self _) fun w' cs' m' o' hn' => ⟨o', _, rfl, hn', h4.mod m' fun j hj e => by omega⟩
  · have hk : y.1.ks = [] := List.eq_nil_of_length_eq_zero (by have := of_decide_eq_false hk; omega)
    rw [if_pos hk]
theorem NB.more {w0 w' : World} {g gn B : Nat} {X Y : Nat → Prop} {x : Nd} {vw va vr vo vk : Value} (h : NB w0 w g gn B X x vw va vr vo vk) (hm : Still w w') (hXY : ∀ k, X k → Y k) (hYX : ∀ k, Y k → X k ∨ (w.heap.size ≤ k ∧ k < w'.heap.size)) : NB w0 w' g gn B Y x vw va vr vo vk := by
  have hz := hm.size
  have hl := h.row.lt
  have hgn := h.hgn
  have hv : ∀ k, Y k → X k ∨ w.heap.size ≤ k := fun k hk => (hYX k hk).imp_right And.left
  refine ⟨h.row.still hm, h.only.tr hm.only, h.hg, h.hB, h.hgn, fun k hk => ?_, hXY _ h.xg, ?_, ?_, ?_, ?_, ?_⟩
  · rcases hYX k hk with hk | hk
    · exact ⟨Nat.lt_of_lt_of_le (h.xs k hk).1 hz, (h.xs k hk).2⟩
    · exact ⟨hk.2, by omega⟩
  · exact h.ow.mod hm (fun _ _ _ h => h.elim) hXY hv
  · exact h.oa.mod hm (fun _ _ _ h => h.elim) hXY hv
  · exact h.ord.mod hm (fun _ _ _ h => h.elim) hXY hv
  · exact h.oo.mod hm (fun _ _ _ h => h.elim) hXY hv
  · exact h.ok.mod hm (fun _ _ _ h => h.elim) hXY hv
abbrev Nd.setK (x : Nd) (y : Nd) : Nd := .mk x.k x.neg x.nm x.ws x.as x.rs x.os [y]
abbrev Nd.setO (x : Nd) (y : Txt) : Nd := .mk x.k x.neg x.nm x.ws x.as x.rs [y] x.ks
theorem setK_spec {w0 w1 : World} {g gn B : Nat} {X : Nat → Prop} {x y : Nd} {vw va vr vo vk : Value} {cs : List Value} (nb : NB w0 w1 g gn B X x vw va vr vo vk) (o : Only g w1 w) (hn : NdE w (fun k => w1.heap.size ≤ k ∧ k < w.heap.size) y cs) {K : World → Prop}
    (hK : ∀ vk' w' X', NB w0 w' g gn B X' (x.setK y) vw va vr vo vk' → Mod (fun k => B ≤ k) w w' → K w') :
    letW (w.alloc (.cells ⟨cs⟩ 31)) (fun w2 => stCells (Addr.mk gn 7 none) K 0 [.slice (some (Addr.mk w.heap.size 0 none)) 1 1] w2) := by
  have nb1 := nb.on o
  have hl := nb.row.lt
  have hl1 := nb1.row.lt
  have hB := nb.hB
  have hgn := nb.hgn
  have hzo := o.size
  refine allocK fun w2 r2 s2 z2 => ?_
  have nb2 := nb1.more (Y := fun k => X k ∨ k = w.heap.size) s2 (fun k hk => .inl hk) (fun k hk => hk.imp_right fun e => by omega)
  refine stK nb2.row (by simp) (by simp [Value.oneCell']) fun w3 r3 m3 z3 => hK _ w3 _ (nb2.put m3 (y := x.setK y) r3 (.inr ⟨rfl, rfl⟩) ⟨rfl, rfl⟩ ⟨rfl, rfl⟩ (.inr ⟨rfl, rfl⟩) (.inl ?_)) (Mod.trans s2 m3 (fun _ h => h.elim) (fun k _ e => by omega))
  have hn3 := (hn.still s2).mod m3 (fun k hk e => by omega)
  refine Enc.OutX.row (l := [y]) (r2.mod m3 (by omega)) (by omega) (by omega) (.inr rfl) (show 1 ≤ 1000000 by decide) (Enc.Cs.single (hn3.mono fun k hk => ⟨by omega, by omega, fun hx => ?_⟩))
  rcases hx with hx | hx
  · have := (nb.xs k hx).1
    omega
  · omega
theorem setO_spec {w0 : World} {g gn B : Nat} {X : Nat → Prop} {x : Nd} {y : Txt} {vw va vr vo vk : Value} (nb : NB w0 w g gn B X x vw va vr vo vk) {K : World → Prop}
    (hK : ∀ vo' w' X', NB w0 w' g gn B X' (x.setO y) vw va vr vo' vk → Mod (fun k => B ≤ k) w w' → K w') :
    letW (w.alloc (.cells ⟨[.string (S y)]⟩ 9)) (fun w2 => stCells (Addr.mk gn 6 none) K 0 [.slice (some (Addr.mk w.heap.size 0 none)) 1 1] w2) := by
  have hl := nb.row.lt
  have hB := nb.hB
  have hgn := nb.hgn
  refine allocK fun w2 r2 s2 z2 => ?_
  have nb2 := nb.more (Y := fun k => X k ∨ k = w.heap.size) s2 (fun k hk => .inl hk) (fun k hk => hk.imp_right fun e => by omega)
  refine stK nb2.row (by simp) (by simp [Value.oneCell']) fun w3 r3 m3 z3 => hK _ w3 _ (nb2.put m3 (y := x.setO y) r3 (.inr ⟨rfl, rfl⟩) ⟨rfl, rfl⟩ ⟨rfl, rfl⟩ (.inl ?_) (.inr ⟨rfl, rfl⟩)) (Mod.trans s2 m3 (fun _ h => h.elim) (fun k _ e => by omega))
  exact Enc.OutX.row (l := [y]) (r2.mod m3 (by omega)) (by omega) (by omega) (.inr rfl) (show 1 ≤ 1000000 by decide) (Enc.Cs.single rfl)
theorem NB.mkW {w0 : World} {g gn B : Nat} {x : Nd} {y : List Pt} {b : Nat} {v : Value} (hr : Row w gn 31 ⟨ncell x (.slice (some ⟨b, 0, none⟩) 1 1) (.slice none 0 0) (.slice none 0 0) (.slice none 0 0) (.slice none 0 0)⟩) (hb : Row w b 53 ⟨[v]⟩) (hc : SlAt w (fun k => B ≤ k ∧ k < w.heap.size ∧ k ≠ gn ∧ k ≠ b) y v) (ho : Only g w0 w) (hg : g < w0.heap.size) (hB : w0.heap.size ≤ B) (hgn : B ≤ gn) (hbB : B ≤ b) (hne : b ≠ gn) (hx : x.ws = [y] ∧ x.as = [] ∧ x.rs = [] ∧ x.os = [] ∧ x.ks = []) :
    NB w0 w g gn B (fun k => k = gn ∨ k = b) x (.slice (some ⟨b, 0, none⟩) 1 1) (.slice none 0 0) (.slice none 0 0) (.slice none 0 0) (.slice none 0 0) := by
  obtain ⟨h1, h2, h3, h4, h5⟩ := hx
  refine ⟨hr, ho, hg, hB, hgn, fun k hk => ?_, .inl rfl, ?_, ?_, ?_, ?_, ?_⟩
  · rcases hk with rfl | rfl
    · exact ⟨hr.lt, hgn⟩
    · exact ⟨hb.lt, hbB⟩
  · rw [h1]
    exact Enc.OutX.row (l := [y]) hb hbB hne (.inr rfl) (show 1 ≤ 1000000 by decide) (Enc.Cs.single ⟨v, rfl, hc.turn (fun k hk => ⟨hk.1, hk.2.1, fun h => h.elim hk.2.2.1 hk.2.2.2⟩) (fun _ _ _ h => h)⟩)
  · rw [h2]; exact Enc.OutX.nil _ _ _ _ _ _
  · rw [h3]; exact Enc.OutX.nil _ _ _ _ _ _
  · rw [h4]; exact Enc.OutX.nil _ _ _ _ _ _
  · rw [h5]; exact Enc.OutX.nil _ _ _ _ _ _
def firstK (f : FuncId) (args : Array Value) (kd : Int) (w2 : World) (K : World → World → Prop) (R : Ending → World → Prop) : Prop :=
  Calls Tryz.prog f args w2 (fun ed w3 => (∃ rKind : Int, ∃ rNot : Bool, ∃ rName : List UInt8, ∃ (rWords : Option Addr) (rWordsL rWordsC : Nat), ∃ (rAssigns : Option Addr) (rAssignsL rAssignsC : Nat), ∃ (rRedirs : Option Addr) (rRedirsL rRedirsC : Nat), ∃ (rOps : Option Addr) (rOpsL rOpsC : Nat), ∃ (rKids : Option Addr) (rKidsL rKidsC : Nat), ed = .returned (.agg #[(.int .i64 rKind), (.bool rNot), (.string (S rName)), (.slice rWords rWordsL rWordsC), (.slice rAssigns rAssignsL rAssignsC), (.slice rRedirs rRedirsL rRedirsC), (.slice rOps rOpsL rOpsC), (.slice rKids rKidsL rKidsC)]) ∧ letW (w3.alloc (.cells #[(.int .i64 rKind), (.bool rNot), (.string (S rName)), (.slice rWords rWordsL rWordsC), (.slice rAssigns rAssignsL rAssignsC), (.slice rRedirs rRedirsL rRedirsC), (.slice rOps rOpsL rOpsC), (.slice rKids rKidsL rKidsC)] 31)) (fun (w4 : World) => letW (w4.alloc (.cells #[(.int .i64 0), (.bool false), (.string (S ([] : List UInt8))), (.slice none 0 0), (.slice none 0 0), (.slice none 0 0), (.slice none 0 0), (.slice none 0 0)] 31)) (fun (w5 : World) => stCells (Addr.mk w4.heap.size 0 none) (fun w6 => K w4 w6) 0 [(.int .i64 kd), (.bool false), (.string (S ([] : List UInt8))), (.slice none 0 0), (.slice none 0 0), (.slice none 0 0), (.slice none 0 0), (.slice (some (Addr.mk w3.heap.size 0 none)) 1 1)] w5))) ∨ (∃ ch, ed = .panicked ch ∧ R (.panicked ch) w3))
theorem firstK_spec {w2 : World} {g : Nat} {kd : Int} {f : FuncId} {args : Array Value} {r : Rs (Nd × Ts)} (hres : Row w2 w.heap.size 31 ⟨zcell⟩) (o2 : Only g w w2) (hg : g < w.heap.size) (hcall : Calls Tryz.prog f args w2 (SyP w2 g r)) {K : World → World → Prop} {R : Ending → World → Prop}
    (hbad : ∀ k w', r = .bad k → Only g w w' → R (.panicked (errP k)) w') (hok : ∀ y w4 w6 vk X, r = .ok y → NB w w6 g w4.heap.size (w.heap.size + 1) X (.mk kd false [] [] [] [] [] [y.1]) (.slice none 0 0) (.slice none 0 0) (.slice none 0 0) (.slice none 0 0) vk → Row w6 w.heap.size 31 ⟨zcell⟩ → Pz w6 g y.2 → K w4 w6) : firstK f args kd w2 K R := by
  have hl := hres.lt
  refine hcall.mono ?_
  rintro e w3 ⟨o3, hp⟩
  have hz3 := o3.size
  cases hr : r with
  | bad k =>
    rw [hr] at hp
    exact .inr ⟨_, hp, hbad k w3 hr (o2.tr o3)⟩
  | ok y =>
    rw [hr] at hp
    obtain ⟨cs, rfl, hnd, h3⟩ := hp
    obtain ⟨pw, cw, pa, ca, pr, cr, po, co, pk, ck, rfl, _⟩ := hnd.outs
    refine .inl ⟨_, _, _, _, _, _, _, _, _, _, _, _, _, _, _, _, _, _, rfl, allocK fun w4 r4 s4 z4 => allocK fun w5 r5 s5 z5 => stK r5 (by simp) (by simp [Value.oneCell']) fun w6 r6 m6 z6 => ?_⟩
    have hnd6 : NdE w6 (fun k => w.heap.size + 1 ≤ k ∧ k < w6.heap.size ∧ k ≠ w4.heap.size ∧ k ≠ w3.heap.size) y.1 _ := (((hnd.still s4).still s5).mod m6 (fun k hk e => by omega)).mono fun k hk => ⟨by omega, by omega, by omega, by omega⟩
    have r6 : Row w6 w4.heap.size 31 ⟨ncell (.mk kd false [] [] [] [] [] [y.1]) (.slice none 0 0) (.slice none 0 0) (.slice none 0 0) (.slice none 0 0) (.slice (some ⟨w3.heap.size, 0, none⟩) 1 1)⟩ := r6
    exact hok y w4 w6 _ _ hr (NB.mkK r6 ((r4.still s5).mod m6 (by omega)) hnd6 (Mod.trans (((o2.tr o3).tr s4.only).tr s5.only) m6 (fun _ h => h) (fun i hi e => by omega)) hg (by omega) (by omega) (by omega) (by omega) ⟨rfl, rfl, rfl, rfl, rfl⟩) ((((hres.mod o3 (by omega)).still s4).still s5).mod m6 (by omega)) (((h3.still s4).still s5).mod m6 (by intro k hk e; have := h3.lt; omega))
theorem dep_up {L : Nat} (hL : L < 100) : IntKind.i64.wrap (31 - ((L + 1 : Nat) : Int) + 1) = 31 - (L : Int) := by
  rw [wrap_i64 (by omega) (by omega)]
  omega
def SyC (w : World) (g : Nat) (r : Rs (Nd × Ts)) (e : Ending) (w' : World) : Prop := Only g w w' ∧ match r with
  | .ok x => ∃ cs, e = .returned (.agg ⟨cs⟩) ∧ NdE w' (fun k => w.heap.size ≤ k ∧ k < w'.heap.size) x.1 cs ∧ Pz w' g x.2 ∧ cs[5]? = some (.slice none 0 0)
  | .bad k => e = .panicked (errP k)
theorem SyC.p {g : Nat} {r : Rs (Nd × Ts)} {e : Ending} {w' : World} (h : SyC w g r e w') : SyP w g r e w' := by
  obtain ⟨o, h⟩ := h
  refine ⟨o, ?_⟩
  cases r with
  | bad k => exact h
  | ok x =>
    obtain ⟨cs, h1, h2, h3, _⟩ := h
    exact ⟨cs, h1, h2, h3⟩
theorem nExit_spec5 {w0 : World} {g gn B : Nat} {X : Nat → Prop} {x : Nd} {vw va vr vo vk : Value} {R : Ending → World → Prop} (h : NB w0 w g gn B X x vw va vr vo vk) (hres : Row w w0.heap.size 31 ⟨zcell⟩) (hB : w0.heap.size < B)
    (hR : ∀ w' cs, Mod (fun k => k = w0.heap.size) w w' → Only g w0 w' → NdE w' (fun k => w0.heap.size ≤ k ∧ k < w'.heap.size) x cs → cs[5]? = some vr → R (.returned (.agg ⟨cs⟩)) w') : NExit gn w0.heap.size w R := by
  have hn := h.nde
  obtain ⟨pw, cw, rfl⟩ := h.ow.form
  obtain ⟨pa, ca, rfl⟩ := h.oa.form
  obtain ⟨pr, cr, rfl⟩ := h.ord.form
  obtain ⟨po, co, rfl⟩ := h.oo.form
  obtain ⟨pk, ck, rfl⟩ := h.ok.form
  have hr := h.row
  refine ⟨_, _, _, _, _, _, _, _, _, _, _, _, _, _, _, _, _, _, hr.lget rfl, hr.lget rfl, hr.lget rfl, hr.lget rfl, hr.lget rfl, hr.lget rfl, hr.lget rfl, hr.lget rfl, stK hres (by simp) (by simp [Value.oneCell']) fun w' r' m' z' => ?_⟩
  refine ⟨_, _, _, _, _, _, _, _, _, _, _, _, _, _, _, _, _, _, r'.lget rfl, r'.lget rfl, r'.lget rfl, r'.lget rfl, r'.lget rfl, r'.lget rfl, r'.lget rfl, r'.lget rfl, hR w' _ m' (Mod.trans h.only m' (fun _ h => h) (fun i hi e => by omega)) ?_ rfl⟩
  exact (hn.mod m' fun k hk e => by omega).mono fun k hk => ⟨by omega, by omega⟩
theorem nExit_row5 {w0 : World} {g gn B : Nat} {x : Nd} {cs : List Value} {R : Ending → World → Prop} (hr : Row w gn 31 ⟨cs⟩) (hn : NdE w (fun k => B ≤ k ∧ k < w.heap.size) x cs) (ho : Only g w0 w) (hres : Row w w0.heap.size 31 ⟨zcell⟩) (hB : w0.heap.size < B)
    (hR : ∀ w', Mod (fun k => k = w0.heap.size) w w' → Only g w0 w' → NdE w' (fun k => w0.heap.size ≤ k ∧ k < w'.heap.size) x cs → R (.returned (.agg ⟨cs⟩)) w') : NExit gn w0.heap.size w R := by
  obtain ⟨pw, cw, pa, ca, pr, cr, po, co, pk, ck, rfl, _⟩ := hn.outs
  refine ⟨_, _, _, _, _, _, _, _, _, _, _, _, _, _, _, _, _, _, hr.lget rfl, hr.lget rfl, hr.lget rfl, hr.lget rfl, hr.lget rfl, hr.lget rfl, hr.lget rfl, hr.lget rfl, stK hres (by simp) (by simp [Value.oneCell']) fun w' r' m' z' => ?_⟩
  refine ⟨_, _, _, _, _, _, _, _, _, _, _, _, _, _, _, _, _, _, r'.lget rfl, r'.lget rfl, r'.lget rfl, r'.lget rfl, r'.lget rfl, r'.lget rfl, r'.lget rfl, r'.lget rfl, hR w' m' (Mod.trans ho m' (fun _ h => h) (fun i hi e => by omega)) ?_⟩
  exact (hn.mod m' fun k hk e => by omega).mono fun k hk => ⟨by omega, by omega⟩
theorem sub_of {L : Nat} (hL : L < 100) (hc : CmdS L) {g : Nat} {x : Nat × Txt} {r : Ts} (h : Pz w g (x :: r)) (hb : TB (x :: r)) : Calls Tryz.prog fn_syntax_parser_sub #[.pointer (some ⟨g, 0, none⟩), .int .i64 (31 - ((L + 1 : Nat) : Int))] w (SyC w g (insideF (lvS L).1 5 1 tShut r)) := by
  refine syntax_parser_sub_calls _ _ _ _ ?_
  have hg := h.lt
  refine allocK fun w1 r1 s1 z1 => (next_spec (h.still s1)).mono ?_
  rintro _ w2 ⟨rfl, o2, h2⟩
  refine .inl ⟨_, _, rfl, ?_⟩
  rw [dep_up hL]
  refine firstK_spec (kd := 5) (g := g) (r := someF (lvS L).1 r) (r1.mod o2 (by omega)) (s1.only.tr o2) hg (some_of hc h2 hb.tail) (fun k w' hr o => ⟨o, ?_⟩) (fun y w4 w6 vk X hr nb6 res6 h6 => ?_)
  · show match insideF (lvS L).1 5 1 tShut r with | .ok _ => _ | .bad _ => _
    simp only [insideF, hr, Rs.and]
  have hin : insideF (lvS L).1 5 1 tShut r = tookF 1 tShut (.mk 5 false [] [] [] [] [] [y.1], y.2) := by simp only [insideF, hr, Rs.and]
  rw [hin]
  refine (take_spec h6 1 (t := tShut) (by decide)).mono ?_
  rintro _ w7 ⟨rfl, o7, h7⟩
  have nb7 := nb6.on o7
  refine .inl ⟨_, rfl, wantK (fun ht => ?_) (fun ht => ⟨nb7.only, ?_⟩)⟩
  · rw [if_pos ht] at h7
    refine nExit_spec5 nb7 (res6.mod o7 (by omega)) (Nat.lt_succ_self _) fun w' cs' m' o' hn' h5' => ⟨o', ?_⟩
    unfold tookF
    rw [if_pos ht]
    exact ⟨_, rfl, hn', h7.mod m' (fun j hj e => by omega), h5'⟩
  · unfold tookF
    rw [if_neg (by rw [ht]; decide)]
theorem sygroup_of {L : Nat} (hL : L < 100) (hc : CmdS L) {g : Nat} {x : Nat × Txt} {r : Ts} (h : Pz w g (x :: r)) (hb : TB (x :: r)) : Calls Tryz.prog fn_syntax_parser_group #[.pointer (some ⟨g, 0, none⟩), .int .i64 (31 - ((L + 1 : Nat) : Int))] w (SyC w g (insideF (lvS L).1 4 0 tEcarb r)) := by
  refine syntax_parser_group_calls _ _ _ _ ?_
  have hg := h.lt
  refine allocK fun w1 r1 s1 z1 => (next_spec (h.still s1)).mono ?_
  rintro _ w2 ⟨rfl, o2, h2⟩
  refine .inl ⟨_, _, rfl, ?_⟩
  rw [dep_up hL]
  refine firstK_spec (kd := 4) (g := g) (r := someF (lvS L).1 r) (r1.mod o2 (by omega)) (s1.only.tr o2) hg (some_of hc h2 hb.tail) (fun k w' hr o => ⟨o, ?_⟩) (fun y w4 w6 vk X hr nb6 res6 h6 => ?_)
  · show match insideF (lvS L).1 4 0 tEcarb r with | .ok _ => _ | .bad _ => _
    simp only [insideF, hr, Rs.and]
  have hin : insideF (lvS L).1 4 0 tEcarb r = tookF 0 tEcarb (.mk 4 false [] [] [] [] [] [y.1], y.2) := by simp only [insideF, hr, Rs.and]
  rw [hin]
  refine (take_spec h6 0 (t := tEcarb) (by decide)).mono ?_
  rintro _ w7 ⟨rfl, o7, h7⟩
  have nb7 := nb6.on o7
  refine .inl ⟨_, rfl, wantK (fun ht => ?_) (fun ht => ⟨nb7.only, ?_⟩)⟩
  · rw [if_pos ht] at h7
    refine nExit_spec5 nb7 (res6.mod o7 (by omega)) (Nat.lt_succ_self _) fun w' cs' m' o' hn' h5' => ⟨o', ?_⟩
    unfold tookF
    rw [if_pos ht]
    exact ⟨_, rfl, hn', h7.mod m' (fun j hj e => by omega), h5'⟩
  · unfold tookF
    rw [if_neg (by rw [ht]; decide)]
theorem hold_spec {w2 : World} {g : Nat} {y : Nd × Ts} {e2 : Ending} (res2 : Row w2 w.heap.size 31 ⟨zcell⟩) (o2 : Only g w w2) (_hg : g < w.heap.size) {b : Nat} (hbw : w.heap.size + 1 ≤ b) (_hb2 : b ≤ w2.heap.size) (hp : ∃ cs, e2 = .returned (.agg ⟨cs⟩) ∧ NdE w2 (fun k => b ≤ k ∧ k < w2.heap.size) y.1 cs ∧ Pz w2 g y.2) : ∃ pw cw pa ca pr cr po co pk ck, e2 = .returned (.agg #[.int .i64 y.1.k, .bool y.1.neg, .string (S y.1.nm), .slice pw y.1.ws.length cw, .slice pa y.1.as.length ca, .slice pr y.1.rs.length cr, .slice po y.1.os.length co, .slice pk y.1.ks.length ck]) ∧ Pz w2 g y.2 ∧
    ∀ {K : World → Prop}, (∀ w4, Row w4 w2.heap.size 31 ⟨ncell y.1 (.slice pw y.1.ws.length cw) (.slice pa y.1.as.length ca) (.slice pr y.1.rs.length cr) (.slice po y.1.os.length co) (.slice pk y.1.ks.length ck)⟩ → Row w4 w.heap.size 31 ⟨zcell⟩ → Only g w w4 → Pz w4 g y.2 → NdE w4 (fun k => w.heap.size + 1 ≤ k ∧ k < w2.heap.size) y.1 (ncell y.1 (.slice pw y.1.ws.length cw) (.slice pa y.1.as.length ca) (.slice pr y.1.rs.length cr) (.slice po y.1.os.length co) (.slice pk y.1.ks.length ck)) → w4.heap.size = w2.heap.size + 1 → K w4) →
      letW (w2.alloc (.cells ⟨zcell⟩ 31)) (fun w3 => stCells (Addr.mk w2.heap.size 0 none) K 0 [.int .i64 y.1.k, .bool y.1.neg, .string (S y.1.nm), .slice pw y.1.ws.length cw, .slice pa y.1.as.length ca, .slice pr y.1.rs.length cr, .slice po y.1.os.length co, .slice pk y.1.ks.length ck] w3) := by
  have hl := res2.lt
  obtain ⟨cs, rfl, hnd, h2⟩ := hp
  obtain ⟨pw, cw, pa, ca, pr, cr, po, co, pk, ck, rfl, _⟩ := hnd.outs
  refine ⟨pw, cw, pa, ca, pr, cr, po, co, pk, ck, rfl, h2, fun {K} hK => allocK fun w3 r3 s3 z3 => stK r3 (by simp) (by simp [Value.oneCell']) fun w4 r4 m4 z4 => ?_⟩
  exact hK w4 r4 ((res2.still s3).mod m4 (by omega)) (Mod.trans (o2.tr s3.only) m4 (fun _ h => h) (fun i hi e => by omega)) ((h2.still s3).mod m4 (by intro k hk e; have := h2.lt; omega)) (((hnd.still s3).mod m4 (fun k hk e => by omega)).mono fun k hk => ⟨by omega, by omega⟩) (by omega)
theorem body_of {L : Nat} (hL : L < 100) (hc : CmdS L) {g : Nat} {s : Ts} (h : Pz w g s) (hb : TB s) : Calls Tryz.prog fn_syntax_parser_body #[.pointer (some ⟨g, 0, none⟩), .int .i64 (31 - ((L + 1 : Nat) : Int))] w (SyP w g (bodyF (lvS L).1 s)) := by
  refine syntax_parser_body_calls _ _ _ _ ?_
  have hg := h.lt
  refine allocK fun w1 r1 s1 z1 => (take_spec (h.still s1) 0 (t := tDo) (by decide)).mono ?_
  rintro _ w2 ⟨rfl, o2, h2⟩
  have hz2 := o2.size
  have o12 := s1.only.tr o2
  refine .inl ⟨_, rfl, wantK (fun ht => ?_) (fun ht => ⟨o12, ?_⟩)⟩
  rotate_left
  · have : bodyF (lvS L).1 s = .bad 100 := by unfold bodyF; rw [if_neg (by rw [ht]; decide)]
    rw [this]
  rw [if_pos ht] at h2
  have hbf : bodyF (lvS L).1 s = (someF (lvS L).1 s.tail).and fun x => tookF 0 tDone x := by unfold bodyF; rw [if_pos ht]
  rw [hbf, dep_up hL]
  refine (some_of hc h2 (hb.suf (tail_suf s))).mono ?_
  rintro e3 w3 ⟨o3, hp⟩
  have hz3 := o3.size
  have o13 := o12.tr o3
  cases hr : someF (lvS L).1 s.tail with
  | bad k =>
    rw [hr] at hp
    exact .inr ⟨_, hp, o13, rfl⟩
  | ok y =>
  rw [hr] at hp
  obtain ⟨pw, cw, pa, ca, pr, cr, po, co, pk, ck, rfl, _, hK⟩ := hold_spec ((r1.mod o2 (by omega)).mod o3 (by omega)) o13 hg (b := w2.heap.size) (by omega) hz3 hp
  simp only [Rs.and]
  refine .inl ⟨_, _, _, _, _, _, _, _, _, _, _, _, _, _, _, _, _, _, rfl, hK fun w5 r5 res5 o5 h5 hn5 z5 => ?_⟩
  refine (take_spec h5 0 (t := tDone) (by decide)).mono ?_
  rintro _ w6 ⟨rfl, o6, h6⟩
  have hz6 := o6.size
  refine .inl ⟨_, rfl, wantK (fun ht => ?_) (fun ht => ⟨o5.tr o6, ?_⟩)⟩
  · rw [if_pos ht] at h6
    unfold tookF
    rw [if_pos ht]
    exact nExit_row (r5.mod o6 (by omega)) ((hn5.mod o6 fun k hk e => by omega).mono fun k hk => ⟨hk.1, by omega⟩) (o5.tr o6) (res5.mod o6 (by omega)) (Nat.lt_succ_self _) fun w' cs' m' o' hn' => ⟨o', _, rfl, hn', h6.mod m' fun j hj e => by omega⟩
  · unfold tookF
    rw [if_neg (by rw [ht]; decide)]
theorem loop_of {L : Nat} (hL : L < 100) (hc : CmdS L) {g : Nat} {x : Nat × Txt} {r : Ts} (h : Pz w g (x :: r)) (hb : TB (x :: r)) : Calls Tryz.prog fn_syntax_parser_loop #[.pointer (some ⟨g, 0, none⟩), .int .i64 (31 - ((L + 1 : Nat) : Int))] w (SyC w g (loopSF (lvS L).1 x.2 r)) := by
  refine syntax_parser_loop_calls _ _ _ _ ?_
  have hg := h.lt
  refine allocK fun w1 r1 s1 z1 => (next_spec (h.still s1)).mono ?_
  rintro _ w2 ⟨rfl, o2, h2⟩
  have hz2 := o2.size
  refine .inl ⟨_, _, rfl, allocK fun w3 r3 s3 z3 => stK r3 (by simp) (by simp [Value.oneCell']) fun w4 r4 m4 z4 => ?_⟩
  have r4 : Row w4 w2.heap.size 31 ⟨ncell (.mk 7 false x.2 [] [] [] [] []) (.slice none 0 0) (.slice none 0 0) (.slice none 0 0) (.slice none 0 0) (.slice none 0 0)⟩ := r4
  have res4 : Row w4 w.heap.size 31 ⟨zcell⟩ := ((r1.mod o2 (by omega)).still s3).mod m4 (by omega)
  have o4 : Only g w w4 := Mod.trans ((s1.only.tr o2).tr s3.only) m4 (fun _ h => h) (fun i hi e => by omega)
  have h4 := (h2.still s3).mod m4 (by intro k hk e; omega)
  have nb4 := NB.mk0 (B := w.heap.size + 1) r4 o4 hg (by omega) (by omega) ⟨rfl, rfl, rfl, rfl, rfl⟩
  rw [dep_up hL]
  have hls : loopSF (lvS L).1 x.2 r = (someF (lvS L).1 r).and fun c => (bodyF (lvS L).1 c.2).and fun b => .ok (.mk 7 false x.2 [] [] [] [] [c.1, b.1], b.2) := rfl
  rw [hls]
  refine kidK_spec nb4 (some_of hc (h4.still (drew_still _)) hb.tail) (show 0 < 1000000 by decide) (fun k w' hr o => ⟨o, ?_⟩) (fun y vk5 w5 X5 hr nb5 h5 m5 => ?_)
  · rw [hr]
    rfl
  rw [hr]
  simp only [Rs.and]
  have res5 := res4.mod m5 (by intro e; omega)
  refine kidK_spec nb5 (body_of hL hc (h5.still (drew_still _)) (hb.tail.suf (someF_suf (lvS_suf L).1 _ _ hr))) (show 1 < 1000000 by decide) (fun k w' hr o => ⟨o, ?_⟩) (fun z vk6 w6 X6 hr nb6 h6 m6 => ?_)
  · rw [hr]
  rw [hr]
  exact nExit_spec5 nb6 (res5.mod m6 (by intro e; omega)) (Nat.lt_succ_self _) fun w' cs' m' o' hn' h5' => ⟨o', _, rfl, hn', h6.mod m' (fun j hj e => by omega), h5'⟩
def BrS (L : Nat) : Prop := ∀ (w : World) (g : Nat) (x : Nat × Txt) (r : Ts), Pz w g (x :: r) → TB (x :: r) → L ≠ 0 → Calls Tryz.prog fn_syntax_parser_branch #[.pointer (some ⟨g, 0, none⟩), .int .i64 (31 - (L : Int))] w (SyC w g ((lvS L).2 r))
theorem listN_at {w : World} {B b : Nat} {x : Nd} {cs : List Value} (hr : Row w b 31 ⟨cs⟩) (hB : B ≤ b) (hn : NdE w (fun k => B ≤ k ∧ k < w.heap.size ∧ k ≠ b) x cs) : NdE w (fun k => B ≤ k ∧ k < w.heap.size) (listN [x]) (ncell (listN [x]) (.slice none 0 0) (.slice none 0 0) (.slice none 0 0) (.slice none 0 0) (.slice (some ⟨b, 0, none⟩) 1 1)) :=
  NdE.of (Enc.OutX.nil wsE w B 53 (fun _ => False) 0).at (Enc.OutX.nil nsE w B 55 (fun _ => False) 0).at (Enc.OutX.nil nsE w B 58 (fun _ => False) 0).at (Enc.OutX.nil osE w B 9 (fun _ => False) 0).at
    (Enc.OutX.row (e := ndE) (l := [x]) (gn := b + 1) (X := fun k => k = b) hr hB (by omega) rfl (show 1 ≤ 1000000 by decide) (Enc.Cs.single hn)).at
theorem Rs.ok_and {α β : Type} (x : α) (f : α → Rs β) : (Rs.ok x).and f = f x := rfl
theorem branch_of {L : Nat} (hL : L < 100) (hc : CmdS L) (hbr : BrS L) : BrS (L + 1) := by
  intro w g x r h hb _
  refine syntax_parser_branch_calls _ _ _ _ ?_
  have hg := h.lt
  have hsf := someF_suf (lvS_suf L).1
  have hlv : (lvS (L + 1)).2 r = (someF (lvS L).1 r).and fun c => (tookF 0 tThen c).and fun c => (someF (lvS L).1 c.2).and fun t =>
    if isT 0 tElif t.2 = true then ((lvS L).2 t.2.tail).and fun x => .ok (.mk 6 false [] [] [] [] [] [c.1, t.1, listN [x.1]], x.2)
    else if isT 0 tElse t.2 = true then (someF (lvS L).1 t.2.tail).and fun x => .ok (.mk 6 false [] [] [] [] [] [c.1, t.1, x.1], x.2)
    else .ok (.mk 6 false [] [] [] [] [] [c.1, t.1], t.2) := rfl
  rw [hlv]
  clear hlv
  refine allocK fun w1 r1 s1 z1 => (next_spec (h.still s1)).mono ?_
  rintro _ w2 ⟨rfl, o2, h2⟩
  refine .inl ⟨_, _, rfl, ?_⟩
  rw [dep_up hL]
  refine firstK_spec (kd := 6) (g := g) (r := someF (lvS L).1 r) (r1.mod o2 (by omega)) (s1.only.tr o2) hg (some_of hc h2 hb.tail) (fun k w' hr o => ⟨o, ?_⟩) (fun y w4 w6 vk X hr nb6 res6 h6 => ?_)
  · rw [hr]
    rfl
  rw [hr]
  have hsy := hsf _ _ hr
  clear hr
  simp only [Rs.ok_and]
  refine (take_spec h6 0 (t := tThen) (by decide)).mono ?_
  rintro _ w7 ⟨rfl, o7, h7⟩
  have nb7 := nb6.on o7
  have res7 := res6.mod o7 (by omega)
  refine .inl ⟨_, rfl, wantK (fun ht => ?_) (fun ht => ⟨nb7.only, ?_⟩)⟩
  rotate_left
  · have : tookF 0 tThen y = .bad 100 := by unfold tookF; rw [if_neg (by rw [ht]; decide)]
    rw [this]
    rfl
  have htk : tookF 0 tThen y = .ok (y.1, y.2.tail) := by unfold tookF; rw [if_pos ht]
  rw [htk]
  rw [if_pos ht] at h7
  have hb7 : TB y.2.tail := hb.tail.suf ((tail_suf _).trans hsy)
  clear htk
  simp only [Rs.ok_and]
  refine kidK_spec nb7 (some_of hc (h7.still (drew_still _)) hb7) (show 1 < 1000000 by decide) (fun k w' hr o => ⟨o, ?_⟩) (fun t vk8 w8 X8 hr nb8 h8 m8 => ?_)
  · rw [hr]
    rfl
  rw [hr]
  have hb8 := hb7.suf (hsf _ _ hr)
  have res8 := res7.mod m8 (by intro e; omega)
  clear hr
  simp only [Rs.ok_and]
  have nb8 : NB w w8 g w4.heap.size (w.heap.size + 1) X8 (.mk 6 false [] [] [] [] [] [y.1, t.1]) (.slice none 0 0) (.slice none 0 0) (.slice none 0 0) (.slice none 0 0) vk8 := nb8
  generalize hres : (if isT 0 tElif t.2 = true then ((lvS L).2 t.2.tail).and fun x => (Rs.ok : Nd × Ts → Rs (Nd × Ts)) (Nd.mk 6 false [] [] [] [] [] [y.1, t.1, listN [x.1]], x.2)
    else if isT 0 tElse t.2 = true then (someF (lvS L).1 t.2.tail).and fun x => .ok (.mk 6 false [] [] [] [] [] [y.1, t.1, x.1], x.2)
    else .ok (.mk 6 false [] [] [] [] [] [y.1, t.1], t.2)) = res
  refine ⟨fun w9 => ∃ (z : Nd × Ts) (vk : Value) (X : Nat → Prop), res = .ok z ∧ NB w w9 g w4.heap.size (w.heap.size + 1) X z.1 (.slice none 0 0) (.slice none 0 0) (.slice none 0 0) (.slice none 0 0) vk ∧ Row w9 w.heap.size 31 ⟨zcell⟩ ∧ Pz w9 g z.2, ?_, ?_⟩
  rotate_left
  · rintro _ w9 ⟨z, vk, X, hz, nb9, res9, h9⟩
    refine nExit_spec5 nb9 res9 (Nat.lt_succ_self _) fun w' cs' m' o' hn' h5' => ⟨o', ?_⟩
    rw [hz]
    exact ⟨_, rfl, hn', h9.mod m' (fun j hj e => by omega), h5'⟩
  refine allocK fun w9 r9 s9 z9 => (at_spec (h8.still s9) 0 (StrsAt.row (l := [tElif]) r9) (by decide)).mono ?_
  rintro _ w10 ⟨rfl, s10⟩
  rw [atB_one (by decide)]
  have s810 := s9.trans s10
  have nb10 := nb8.still s810
  have res10 := res8.still s810
  have h10 := h8.still s810
  refine .inl ⟨_, rfl, bsel_of (fun hx => ?_) (fun hx => ?_)⟩
  · rw [if_pos hx] at hres
    refine bsel_of (fun hd => ?_) (fun hd => ?_)
    · have hL0 : L = 0 := by have := of_decide_eq_true hd; omega
      subst hL0
      have : res = .bad 2 := hres.symm
      rw [this]
      exact ⟨nb10.only, rfl⟩
    have hL0 : L ≠ 0 := by have := of_decide_eq_false hd; omega
    obtain ⟨q, u, hqu⟩ : ∃ q u, t.2 = q :: u := by
      cases ht2 : t.2 with
      | nil => rw [ht2] at hx; cases hx
      | cons q u => exact ⟨q, u, rfl⟩
    obtain ⟨pk, ck, rfl⟩ := nb10.ok.form
    have nb10' := nb10.still (drew_still w10)
    have res10' := res10.still (drew_still w10)
    have h10' := h10.still (drew_still w10)
    rw [hqu] at h10' hb8
    refine ⟨fun wq => wq.cell? (Addr.mk w4.heap.size 7 none) = some (.slice pk 2 ck), nb10'.row.lget rfl, pk, 2, ck, fun _ h => h, (hbr _ _ _ _ h10' hb8 hL0).mono ?_⟩
    rintro e11 w11 ⟨o11, hp⟩
    have nb11 := nb10'.on o11
    rw [hqu] at hres
    simp only [List.tail_cons] at hres
    cases hr : (lvS L).2 u with
    | bad k =>
      rw [hr] at hp hres
      rw [← hres]
      exact .inr ⟨_, hp, nb11.only, rfl⟩
    | ok z =>
    rw [hr] at hp hres
    obtain ⟨cs, rfl, hnd, h11, _⟩ := hp
    obtain ⟨pw, cw, pa, ca, pr, cr, po, co, pk', ck', rfl, _⟩ := hnd.outs
    have hz11 := o11.size
    refine .inl ⟨_, _, _, _, _, _, _, _, _, _, _, _, _, _, _, _, _, _, rfl, nb11.row.lget rfl, allocK fun w12 r12 s12 z12 => ⟨(nb11.still s12).row.lget rfl, ?_⟩⟩
    have hl := listN_at (B := w10.drew.heap.size) r12 hz11 ((hnd.still s12).mono fun k hk => ⟨by omega, by omega, by omega⟩)
    refine NB.addK (x := .mk 6 false [] [] [] [] [] [y.1, t.1]) (y := listN [z.1]) (cs := ncell (listN [z.1]) (.slice none 0 0) (.slice none 0 0) (.slice none 0 0) (.slice none 0 0) (.slice (some ⟨w11.heap.size, 0, none⟩) 1 1)) nb10' (o11.tr s12.only) hl (show 2 < 1000000 by decide) fun p' c' w13 X13 nb13 m13 => ?_
    refine ⟨(.mk 6 false [] [] [] [] [] [y.1, t.1, listN [z.1]], z.2), _, X13, hres.symm, nb13, ((res10'.mod o11 (by omega)).still s12).mod m13 (by omega), (h11.still s12).mod m13 fun k hk hb => by omega⟩
  · rw [if_neg (by rw [hx]; decide)] at hres
    refine (take_spec h10 0 (t := tElse) (by decide)).mono ?_
    rintro _ w11 ⟨rfl, o11, h11⟩
    have nb11 := nb10.on o11
    have res11 := res10.mod o11 (by omega)
    refine .inl ⟨_, rfl, bsel_of (fun hy => ?_) (fun hy => ?_)⟩
    · rw [if_pos hy] at hres h11
      refine kidK_spec nb11 (some_of hc (h11.still (drew_still _)) (hb8.suf (tail_suf _))) (show 2 < 1000000 by decide) (fun k w' hr o => ⟨o, ?_⟩) (fun z vk12 w12 X12 hr nb12 h12 m12 => ?_)
      · rw [hr] at hres
        rw [← hres]
        rfl
      rw [hr] at hres
      exact ⟨(.mk 6 false [] [] [] [] [] [y.1, t.1, z.1], z.2), vk12, X12, hres.symm, nb12, res11.mod m12 (by intro e; omega), h12⟩
    · rw [if_neg (by rw [hy]; decide)] at hres h11
      exact ⟨_, _, _, hres.symm, nb11, res11, h11⟩
theorem choice_of {L : Nat} (hbr : BrS (L + 1)) {g : Nat} {x : Nat × Txt} {r : Ts} (h : Pz w g (x :: r)) (hb : TB (x :: r)) : Calls Tryz.prog fn_syntax_parser_choice #[.pointer (some ⟨g, 0, none⟩), .int .i64 (31 - ((L + 1 : Nat) : Int))] w (SyC w g (((lvS (L + 1)).2 r).and (tookF 0 tFi))) := by
  refine syntax_parser_choice_calls _ _ _ _ ?_
  have hg := h.lt
  refine allocK fun w1 r1 s1 z1 => (hbr _ _ _ _ (h.still s1) hb (by omega)).mono ?_
  rintro e3 w3 ⟨o3, hp⟩
  have hz3 := o3.size
  have o13 := s1.only.tr o3
  cases hr : (lvS (L + 1)).2 r with
  | bad k =>
    rw [hr] at hp
    exact .inr ⟨_, hp, o13, rfl⟩
  | ok y =>
  rw [hr] at hp
  obtain ⟨cs, he, hnd, hpz, hc5⟩ := hp
  obtain ⟨pw, cw, pa, ca, pr, cr, po, co, pk, ck, he2, _, hK⟩ := hold_spec (r1.mod o3 (by omega)) o13 hg (b := w1.heap.size) (by omega) hz3 ⟨cs, he, hnd, hpz⟩
  have hcs : cs = ncell y.1 (.slice pw y.1.ws.length cw) (.slice pa y.1.as.length ca) (.slice pr y.1.rs.length cr) (.slice po y.1.os.length co) (.slice pk y.1.ks.length ck) := by
    rw [he] at he2
    injection he2 with he2
    injection he2 with he2
    exact congrArg Array.toList he2
  rw [hcs] at hc5
  subst he2
  simp only [Rs.and]
  refine .inl ⟨_, _, _, _, _, _, _, _, _, _, _, _, _, _, _, _, _, _, rfl, hK fun w5 r5 res5 o5 h5 hn5 z5 => ?_⟩
  refine (take_spec h5 0 (t := tFi) (by decide)).mono ?_
  rintro _ w6 ⟨rfl, o6, h6⟩
  have hz6 := o6.size
  refine .inl ⟨_, rfl, wantK (fun ht => ?_) (fun ht => ⟨o5.tr o6, ?_⟩)⟩
  · rw [if_pos ht] at h6
    unfold tookF
    rw [if_pos ht]
    exact nExit_row5 (r5.mod o6 (by omega)) ((hn5.mod o6 fun k hk e => by omega).mono fun k hk => ⟨hk.1, by omega⟩) (o5.tr o6) (res5.mod o6 (by omega)) (Nat.lt_succ_self _) fun w' m' o' hn' => ⟨o', _, rfl, hn', h6.mod m' (fun j hj e => by omega), hc5⟩
  · unfold tookF
    rw [if_neg (by rw [ht]; decide)]
def firstWK (g : Nat) (kd : Int) (w2 : World) (K : World → World → Prop) (R : Ending → World → Prop) : Prop :=
  Calls Tryz.prog fn_syntax_parser_parts #[.pointer (some ⟨g, 0, none⟩)] w2 (fun ed w3 => (∃ (r : Option Addr) (rL rC : Nat), ed = .returned (.slice r rL rC) ∧ letW (w3.alloc (.cells #[(.slice r rL rC)] 53)) (fun (w4 : World) => letW (w4.alloc (.cells #[(.int .i64 0), (.bool false), (.string (S ([] : List UInt8))), (.slice none 0 0), (.slice none 0 0), (.slice none 0 0), (.slice none 0 0), (.slice none 0 0)] 31)) (fun (w5 : World) => stCells (Addr.mk w4.heap.size 0 none) (fun w6 => K w4 w6) 0 [(.int .i64 kd), (.bool false), (.string (S ([] : List UInt8))), (.slice (some (Addr.mk w3.heap.size 0 none)) 1 1), (.slice none 0 0), (.slice none 0 0), (.slice none 0 0), (.slice none 0 0)] w5))) ∨ (∃ ch, ed = .panicked ch ∧ R (.panicked ch) w3))
theorem firstWK_spec {w2 : World} {g : Nat} {kd : Int} {s : Ts} (hres : Row w2 w.heap.size 31 ⟨zcell⟩) (o2 : Only g w w2) (hg : g < w.heap.size) (h2 : Pz w2 g s) (hb : TB s) {K : World → World → Prop} {R : Ending → World → Prop}
    (hbad : ∀ k w', partsF s = .bad k → Only g w w' → R (.panicked (errP k)) w') (hok : ∀ y w4 w6 vw X, partsF s = .ok y → NB w w6 g w4.heap.size (w.heap.size + 1) X (.mk kd false [] [y.1] [] [] [] []) vw (.slice none 0 0) (.slice none 0 0) (.slice none 0 0) (.slice none 0 0) → Row w6 w.heap.size 31 ⟨zcell⟩ → Pz w6 g y.2 → K w4 w6) : firstWK g kd w2 K R := by
  have hl := hres.lt
  refine (parts_spec h2 hb).mono ?_
  rintro e w3 ⟨o3, hp⟩
  have hz3 := o3.size
  cases hr : partsF s with
  | bad k =>
    rw [hr] at hp
    exact .inr ⟨_, hp, hbad k w3 hr (o2.tr o3)⟩
  | ok y =>
    rw [hr] at hp
    obtain ⟨v, rfl, hsl, h3⟩ := hp
    obtain ⟨q, d, rfl⟩ := hsl.form
    refine .inl ⟨_, _, _, rfl, allocK fun w4 r4 s4 z4 => allocK fun w5 r5 s5 z5 => stK r5 (by simp) (by simp [Value.oneCell']) fun w6 r6 m6 z6 => ?_⟩
    have hsl6 : SlAt w6 (fun k => w.heap.size + 1 ≤ k ∧ k < w6.heap.size ∧ k ≠ w4.heap.size ∧ k ≠ w3.heap.size) y.1 (.slice q y.1.length d) := hsl.turn (fun k hk => ⟨by omega, by omega, by omega, by omega⟩) fun a v ⟨k, hk, ea⟩ hcell => mod_cell m6 (by rw [ea]; show ¬ k = w4.heap.size; omega) (s5.cell (s4.cell hcell))
    have r6 : Row w6 w4.heap.size 31 ⟨ncell (.mk kd false [] [y.1] [] [] [] []) (.slice (some ⟨w3.heap.size, 0, none⟩) 1 1) (.slice none 0 0) (.slice none 0 0) (.slice none 0 0) (.slice none 0 0)⟩ := r6
    exact hok y w4 w6 _ _ hr (NB.mkW r6 ((r4.still s5).mod m6 (by omega)) hsl6 (Mod.trans (((o2.tr o3).tr s4.only).tr s5.only) m6 (fun _ h => h) (fun i hi e => by omega)) hg (by omega) (by omega) (by omega) (by omega) ⟨rfl, rfl, rfl, rfl, rfl⟩) ((((hres.mod o3 (by omega)).still s4).still s5).mod m6 (by omega)) (((h3.still s4).still s5).mod m6 (by intro k hk e; have := h3.lt; omega))
theorem item_of {L : Nat} (hL : L < 100) (hc : CmdS L) {g : Nat} {s : Ts} (h : Pz w g s) (hb : TB s) : Calls Tryz.prog fn_syntax_parser_item #[.pointer (some ⟨g, 0, none⟩), .int .i64 (31 - ((L + 1 : Nat) : Int))] w (SyP w g (itemF (lvS L).1 s)) := by
  refine syntax_parser_item_calls _ _ _ _ ?_
  have hg := h.lt
  have hlv : itemF (lvS L).1 s = (partsF (if isT 1 tOpen s = true then s.tail else s)).and fun w => (manyF orsS [w.1] w.2).and fun ws =>
    if isT 1 tShut ws.2 = true then (listF (lvS L).1 ws.2.tail).and fun x => .ok (.mk 10 false [] ws.1 [] [] [] [x.1], x.2) else .bad 100 := rfl
  rw [hlv]
  clear hlv
  refine allocK fun w1 r1 s1 z1 => (take_spec (h.still s1) 1 (t := tOpen) (by decide)).mono ?_
  rintro _ w2 ⟨rfl, o2, h2⟩
  have hb2 : TB (if isT 1 tOpen s = true then s.tail else s) := hb.suf (ite_suf _ s)
  refine .inl ⟨_, rfl, ?_⟩
  generalize (if isT 1 tOpen s = true then s.tail else s) = s0 at *
  refine firstWK_spec (kd := 10) (g := g) (s := s0) (r1.mod o2 (by omega)) (s1.only.tr o2) hg h2 hb2 (fun k w' hr o => ⟨o, ?_⟩) (fun y w4 w6 vw X hr nb6 res6 h6 => ?_)
  · rw [hr]
    rfl
  rw [hr, Rs.ok_and]
  have hy1 := partsF_eats _ _ hr
  have hy2 := partsF_suf _ _ hr
  clear hr
  have hs0 := hb2.1
  rw [dep_up hL]
  refine ⟨fun w9 => ∃ s9 ws vw X, NB w w9 g w4.heap.size (w.heap.size + 1) X (.mk 10 false [] ws [] [] [] []) vw (.slice none 0 0) (.slice none 0 0) (.slice none 0 0) (.slice none 0 0) ∧ Row w9 w.heap.size 31 ⟨zcell⟩ ∧ Pz w9 g s9 ∧ s9 <:+ s0 ∧ ws.length + s9.length ≤ s0.length ∧ manyF orsS ws s9 = manyF orsS [y.1] y.2, pzLen g, ⟨y.2, [y.1], vw, X, nb6, res6, h6, hy2, by simp only [List.length_cons, List.length_nil]; omega, rfl⟩, ?_⟩
  rintro _ w7 ⟨s9, ws, vw, X, nb7, res7, h7, hsf9, hlen, heq⟩
  rw [← heq, manyF_step orsS_sinks]
  clear heq
  have hb9 := hb2.suf hsf9
  refine (take_spec h7 1 (t := tPipe) (by decide)).mono ?_
  rintro _ w8 ⟨rfl, o8, h8⟩
  have nb8 := nb7.on o8
  have res8 := res7.mod o8 (by omega)
  refine .inl ⟨_, rfl, bsel_of (fun hx => ?_) (fun hx => ?_)⟩
  · rw [if_pos hx] at h8
    have hst : orsS ws s9 = (partsF s9.tail).and fun x => .ok (.inl (ws ++ [x.1], x.2)) := by unfold orsS; rw [if_pos hx]
    rw [hst]
    clear hst
    have htl := isT_len hx
    refine wordK_spec nb8 h8 (hb9.suf (tail_suf _)) (show ws.length < 1000000 by omega) (fun k w' hr o => ⟨o, ?_⟩) (fun z vw9 w9 X9 hr nb9 h9 m9 => ?_)
    · rw [hr]
      rfl
    rw [hr]
    have hz1 := partsF_eats _ _ hr
    have hz2 := partsF_suf _ _ hr
    refine ⟨⟨z.2, ws ++ [z.1], vw9, X9, nb9, res8.mod m9 (by intro e; omega), h9, hz2.trans ((tail_suf _).trans hsf9), by simp only [List.length_append, List.length_cons, List.length_nil]; omega, rfl⟩, by rw [h9.len, h7.len]; omega⟩
  · rw [if_neg (by rw [hx]; decide)] at h8
    have hst : orsS ws s9 = .ok (.inr (ws, s9)) := by unfold orsS; rw [if_neg (by rw [hx]; decide)]
    rw [hst, Rs.ok_and, Rs.ok_and]
    clear hst
    refine (take_spec h8 1 (t := tShut) (by decide)).mono ?_
    rintro _ w10 ⟨rfl, o10, h10⟩
    have nb10 := nb8.on o10
    have res10 := res8.mod o10 (by omega)
    refine .inl ⟨_, rfl, wantK (fun ht => ?_) (fun ht => ⟨nb10.only, ?_⟩)⟩
    rotate_left
    · rw [if_neg (by rw [ht]; decide)]
    rw [if_pos ht] at h10
    rw [if_pos ht]
    refine (list_of hc h10 (hb9.suf (tail_suf _))).mono ?_
    rintro e11 w11 ⟨o11, hp⟩
    have nb11 := nb10.on o11
    cases hr : listF (lvS L).1 s9.tail with
    | bad k =>
      rw [hr] at hp
      exact .inr ⟨_, hp, nb11.only, rfl⟩
    | ok z =>
    rw [hr] at hp
    obtain ⟨cs, rfl, hnd, h11⟩ := hp
    obtain ⟨pw, cw, pa, ca, pr, cr, po, co, pk, ck, rfl, _⟩ := hnd.outs
    refine .inl ⟨_, _, _, _, _, _, _, _, _, _, _, _, _, _, _, _, _, _, rfl, setK_spec nb10 o11 hnd fun vk12 w12 X12 nb12 m12 => ?_⟩
    exact nExit_spec nb12 ((res10.mod o11 (by omega)).mod m12 (by intro e; omega)) (Nat.lt_succ_self _) fun w' cs' m' o' hn' => ⟨o', _, rfl, hn', (h11.mod m12 (by intro k hk e; omega)).mod m' fun j hj e => by omega⟩
theorem cases_of {L : Nat} (hL : L < 100) (hc : CmdS L) {g : Nat} {x : Nat × Txt} {r : Ts} (h : Pz w g (x :: r)) (hb : TB (x :: r)) : Calls Tryz.prog fn_syntax_parser_cases #[.pointer (some ⟨g, 0, none⟩), .int .i64 (31 - ((L + 1 : Nat) : Int))] w (SyC w g (casesF (lvS L).1 r)) := by
  refine syntax_parser_cases_calls _ _ _ _ ?_
  have hg := h.lt
  have he := (lvS_eats L).1
  have hlv : casesF (lvS L).1 r = (partsF r).and fun w => if isT 0 tIn (linesF w.2) = true then manyF (caseS (lvS L).1 w.1) [] (linesF (linesF w.2).tail) else .bad 100 := rfl
  rw [hlv]
  clear hlv
  refine allocK fun w1 r1 s1 z1 => (next_spec (h.still s1)).mono ?_
  rintro _ w2 ⟨rfl, o2, h2⟩
  refine .inl ⟨_, _, rfl, ?_⟩
  have hbr := hb.tail
  refine firstWK_spec (kd := 9) (g := g) (s := r) (r1.mod o2 (by omega)) (s1.only.tr o2) hg h2 hbr (fun k w' hr o => ⟨o, ?_⟩) (fun y w4 w6 vw X hr nb6 res6 h6 => ?_)
  · rw [hr]
    rfl
  rw [hr, Rs.ok_and]
  have hy1 := partsF_eats _ _ hr
  have hy2 := partsF_suf _ _ hr
  clear hr
  refine (lines_spec h6).mono ?_
  rintro _ w7 ⟨rfl, o7, h7⟩
  refine .inl ⟨rfl, (take_spec h7 0 (t := tIn) (by decide)).mono ?_⟩
  rintro _ w8 ⟨rfl, o8, h8⟩
  have nb8 := (nb6.on o7).on o8
  have res8 := (res6.mod o7 (by omega)).mod o8 (by omega)
  refine .inl ⟨_, rfl, wantK (fun ht => ?_) (fun ht => ⟨nb8.only, ?_⟩)⟩
  rotate_left
  · rw [if_neg (by rw [ht]; decide)]
  rw [if_pos ht] at h8
  rw [if_pos ht]
  refine (lines_spec h8).mono ?_
  rintro _ w9 ⟨rfl, o9, h9⟩
  have hs0s : linesF (linesF y.2).tail <:+ r := (linesF_suf _).trans ((tail_suf _).trans ((linesF_suf _).trans hy2))
  generalize linesF (linesF y.2).tail = s0 at *
  have hb0 := hbr.suf hs0s
  have hs0 := hb0.1
  refine .inl ⟨rfl, fun w11 => ∃ s9 ks vk X, NB w w11 g w4.heap.size (w.heap.size + 1) X (.mk 9 false [] [y.1] [] [] [] ks) vw (.slice none 0 0) (.slice none 0 0) (.slice none 0 0) vk ∧ Row w11 w.heap.size 31 ⟨zcell⟩ ∧ Pz w11 g s9 ∧ s9 <:+ s0 ∧ ks.length + s9.length ≤ s0.length ∧ manyF (caseS (lvS L).1 y.1) ks s9 = manyF (caseS (lvS L).1 y.1) [] s0, pzLen g, ⟨s0, [], _, X, nb8.on o9, res8.mod o9 (by omega), h9, List.suffix_refl _, by simp only [List.length_nil]; omega, rfl⟩, ?_⟩
  rintro _ w11 ⟨s9, ks, vk, X11, nb11, res11, h11, hsf9, hlen, heq⟩
  rw [← heq, manyF_step (caseS_sinks he _)]
  clear heq
  have hb9 := hb0.suf hsf9
  refine (take_spec h11 0 (t := tEsac) (by decide)).mono ?_
  rintro _ w12 ⟨rfl, o12, h12⟩
  have nb12 := nb11.on o12
  have res12 := res11.mod o12 (by omega)
  refine .inl ⟨_, rfl, bsel_of (fun hx => ?_) (fun hx => ?_)⟩
  · have hx : isT 0 tEsac s9 = false := by simpa using hx
    rw [if_neg (by rw [hx]; decide)] at h12
    have hst : caseS (lvS L).1 y.1 ks s9 = (itemF (lvS L).1 s9).and fun x =>
      if isT 1 tSemi2 x.2 = true then .ok (.inl (ks ++ [x.1], linesF x.2.tail))
      else if isT 0 tEsac x.2 = true then .ok (.inl (ks ++ [x.1], linesF x.2))
      else .bad 100 := by unfold caseS; rw [if_neg (by rw [hx]; decide)]
    rw [hst]
    clear hst
    refine kidK_spec nb12 (item_of hL hc (h12.still (drew_still _)) hb9) (show ks.length < 1000000 by omega) (fun k w' hr o => ⟨o, ?_⟩) (fun z vk13 w13 X13 hr nb13 h13 m13 => ?_)
    · rw [hr]
      rfl
    rw [hr, Rs.ok_and]
    have hz1 := itemF_eats he _ _ hr
    have hz2 := itemF_suf (lvS_suf L).1 _ _ hr
    clear hr
    have res13 := res12.mod m13 (by intro e; omega)
    refine (take_spec h13 1 (t := tSemi2) (by decide)).mono ?_
    rintro _ w14 ⟨rfl, o14, h14⟩
    have nb14 := nb13.on o14
    have res14 := res13.mod o14 (by omega)
    refine .inl ⟨_, rfl, bsel_of (fun hy => ?_) (fun hy => ?_)⟩
    · rw [if_pos hy] at h14
      rw [if_pos hy, Rs.ok_and]
      refine wantK (fun _ => ?_) (fun hf => by cases hf)
      refine (lines_spec h14).mono ?_
      rintro _ w15 ⟨rfl, o15, h15⟩
      have hll := linesF_le z.2.tail
      have htl := isT_len hy
      refine .inl ⟨rfl, ⟨linesF z.2.tail, ks ++ [z.1], vk13, X13, nb14.on o15, res14.mod o15 (by omega), h15, (linesF_suf _).trans ((tail_suf _).trans (hz2.trans hsf9)), by simp only [List.length_append, List.length_cons, List.length_nil]; omega, rfl⟩, by rw [h15.len, h11.len]; omega⟩
    · rw [if_neg (by rw [hy]; decide)] at h14
      rw [if_neg (by rw [hy]; decide)]
      refine allocK fun w15 r15 s15 z15 => (at_spec (h14.still s15) 0 (StrsAt.row (l := [tEsac]) r15) (by decide)).mono ?_
      rintro _ w16 ⟨rfl, s16⟩
      rw [atB_one (by decide)]
      have s1416 := s15.trans s16
      have nb16 := nb14.still s1416
      refine .inl ⟨_, rfl, wantK (fun ht => ?_) (fun ht => ⟨nb16.only, ?_⟩)⟩
      rotate_left
      · rw [if_neg (by rw [ht]; decide)]
        rfl
      rw [if_pos ht, Rs.ok_and]
      refine (lines_spec (h14.still s1416)).mono ?_
      rintro _ w17 ⟨rfl, o17, h17⟩
      have hll := linesF_le z.2
      refine .inl ⟨rfl, ⟨linesF z.2, ks ++ [z.1], vk13, X13, nb16.on o17, (res14.still s1416).mod o17 (by omega), h17, (linesF_suf _).trans (hz2.trans hsf9), by simp only [List.length_append, List.length_cons, List.length_nil]; omega, rfl⟩, by rw [h17.len, h11.len]; omega⟩
  · have hx : isT 0 tEsac s9 = true := by simpa using hx
    rw [if_pos hx] at h12
    have hst : caseS (lvS L).1 y.1 ks s9 = .ok (.inr (.mk 9 false [] [y.1] [] [] [] ks, s9.tail)) := by unfold caseS; rw [if_pos hx]
    rw [hst, Rs.ok_and]
    exact nExit_spec5 nb12 res12 (Nat.lt_succ_self _) fun w' cs' m' o' hn' h5' => ⟨o', _, rfl, hn', h12.mod m' (fun j hj e => by omega), h5'⟩
theorem isW_peek (s : Ts) : decide (((((s[0]?).getD (2, [])).1 : Nat) : Int) = 0) = isW s := by
  cases s with
  | nil => rfl
  | cons x r =>
    obtain ⟨k, t⟩ := x
    show decide ((k : Int) = 0) = decide (k = 0)
    exact decide_eq_decide.2 (by omega)
theorem each_of {L : Nat} (hL : L < 100) (hc : CmdS L) {g : Nat} {x : Nat × Txt} {r0 : Ts} (h : Pz w g (x :: r0)) (hb : TB (x :: r0)) : Calls Tryz.prog fn_syntax_parser_each #[.pointer (some ⟨g, 0, none⟩), .int .i64 (31 - ((L + 1 : Nat) : Int))] w (SyC w g (eachF (lvS L).1 r0)) := by
  refine syntax_parser_each_calls _ _ _ _ ?_
  have hg := h.lt
  have he := (lvS_eats L).1
  have hbr := hb.tail
  refine allocK fun w1 r1 s1 z1 => (next_spec (h.still s1)).mono ?_
  rintro _ w2 ⟨rfl, o2, h2⟩
  have hz2 := o2.size
  have o12 := s1.only.tr o2
  refine .inl ⟨_, _, rfl, fun w8 => Still w2 w8 ∧ ∃ t r, r0 = (0, t) :: r ∧ isName t = true, (peek_spec h2 0).mono ?_, ?_⟩
  · rintro _ w3 ⟨rfl, s3⟩
    refine .inl ⟨_, _, rfl, ?_⟩
    rw [isW_peek]
    refine bsel_of (fun hx => ?_) (fun hx => ?_)
    · obtain ⟨t, r, rfl⟩ : ∃ t r, r0 = (0, t) :: r := by
        match r0, hx with
        | (k, t) :: r, hx => exact ⟨t, r, by rw [show k = 0 from of_decide_eq_true hx]⟩
      refine (peek_spec (h2.still s3) 0).mono ?_
      rintro _ w4 ⟨rfl, s4⟩
      refine .inl ⟨_, _, rfl, (IsName_spec t hbr.head.1).mono ?_⟩
      rintro _ w5 ⟨rfl, s5⟩
      have s25 := (s3.trans s4).trans s5
      refine .inl ⟨_, rfl, wantK (fun ht => ⟨s25, t, r, rfl, ht⟩) (fun ht => ⟨o12.tr s25.only, ?_⟩)⟩
      have : eachF (lvS L).1 ((0, t) :: r) = .bad 100 := by
        simp only [eachF]
        rw [if_neg (by rintro ⟨_, hn⟩; rw [show isName t = false from ht] at hn; cases hn)]
      rw [this]
    · refine wantK (fun hf => by cases hf) (fun _ => ⟨o12.tr s3.only, ?_⟩)
      have : eachF (lvS L).1 r0 = .bad 100 := by
        match r0, hx with
        | [], _ => rfl
        | (k, t) :: r, hx =>
          simp only [eachF]
          rw [if_neg (fun hk => of_decide_eq_false hx hk.1)]
      rw [this]
  rintro _ w8 ⟨s8, t, r, rfl, hname⟩
  have hlv : eachF (lvS L).1 ((0, t) :: r) = if isT 0 tIn (linesF r) = true then (manyF wordsS [] (linesF r).tail).and fun x => if isT 1 tSemi x.2 = true ∨ isT 2 [10] x.2 = true then eachE (lvS L).1 t x.1 [tIn] x.2 else .bad 100
      else eachE (lvS L).1 t [] [] (linesF r) := by
    simp only [eachF]
    rw [if_pos ⟨trivial, hname⟩]
  rw [hlv]
  clear hlv
  have hz8 := s8.size
  refine (next_spec (h2.still s8)).mono ?_
  rintro _ w9 ⟨rfl, o9, h9⟩
  have hz9 := o9.size
  refine .inl ⟨_, _, rfl, allocK fun w10 r10 s10 z10 => stK r10 (by simp) (by simp [Value.oneCell']) fun w11 r11 m11 z11 => ?_⟩
  have r11 : Row w11 w9.heap.size 31 ⟨ncell (.mk 8 false t [] [] [] [] []) (.slice none 0 0) (.slice none 0 0) (.slice none 0 0) (.slice none 0 0) (.slice none 0 0)⟩ := r11
  have res11 : Row w11 w.heap.size 31 ⟨zcell⟩ := ((((r1.mod o2 (by omega)).still s8).mod o9 (by omega)).still s10).mod m11 (by omega)
  have o11 : Only g w w11 := Mod.trans (((o12.tr s8.only).tr o9).tr s10.only) m11 (fun _ h => h) (fun i hi e => by omega)
  have h11 := (h9.still s10).mod m11 (by intro k hk e; omega)
  have nb11 := NB.mk0 (B := w.heap.size + 1) r11 o11 hg (by omega) (by omega) ⟨rfl, rfl, rfl, rfl, rfl⟩
  generalize hgn : w9.heap.size = gn at *
  have hbr2 := hbr.tail
  refine (lines_spec h11).mono ?_
  rintro _ w12 ⟨rfl, o12', h12⟩
  have nb12 := nb11.on o12'
  have res12 := res11.mod o12' (by omega)
  have hbl := hbr2.suf (linesF_suf r)
  generalize linesF r = l0 at *
  generalize hres : (if isT 0 tIn l0 = true then (manyF wordsS [] l0.tail).and fun x => if isT 1 tSemi x.2 = true ∨ isT 2 [10] x.2 = true then eachE (lvS L).1 t x.1 [tIn] x.2 else .bad 100 else eachE (lvS L).1 t [] [] l0) = res
  refine .inl ⟨rfl, fun w28 => ∃ s9 ws os vw vo X, NB w w28 g gn (w.heap.size + 1) X (.mk 8 false t ws [] [] os []) vw (.slice none 0 0) (.slice none 0 0) vo (.slice none 0 0) ∧ Row w28 w.heap.size 31 ⟨zcell⟩ ∧ Pz w28 g s9 ∧ s9 <:+ l0 ∧ res = eachE (lvS L).1 t ws os s9, (take_spec h12 0 (t := tIn) (by decide)).mono ?_, ?_⟩
  · rintro _ w13 ⟨rfl, o13, h13⟩
    have nb13 := nb12.on o13
    have res13 := res12.mod o13 (by omega)
    refine .inl ⟨_, rfl, bsel_of (fun hx => ?_) (fun hx => ?_)⟩
    rotate_left
    · rw [if_neg (by rw [hx]; decide)] at h13 hres
      exact ⟨l0, [], [], _, _, _, nb13, res13, h13, List.suffix_refl _, hres.symm⟩
    rw [if_pos hx] at h13 hres
    refine setO_spec (y := tIn) nb13 fun vo14 w15 X15 nb15 m15 => ?_
    have nb15 : NB w w15 g gn (w.heap.size + 1) X15 (.mk 8 false t [] [] [] [tIn] []) (.slice none 0 0) (.slice none 0 0) (.slice none 0 0) vo14 (.slice none 0 0) := nb15
    have res15 := res13.mod m15 (by omega)
    have h15 := h13.mod m15 (by intro k hk e; omega)
    have hl0 := hbl.1
    have htl := isT_len hx
    refine ⟨fun w16 => ∃ s9 ws vw X, NB w w16 g gn (w.heap.size + 1) X (.mk 8 false t ws [] [] [tIn] []) vw (.slice none 0 0) (.slice none 0 0) vo14 (.slice none 0 0) ∧ Row w16 w.heap.size 31 ⟨zcell⟩ ∧ Pz w16 g s9 ∧ s9 <:+ l0 ∧ ws.length + s9.length ≤ l0.length ∧ manyF wordsS ws s9 = manyF wordsS [] l0.tail, pzLen g, ⟨l0.tail, [], _, _, nb15, res15, h15, tail_suf _, by simp only [List.length_nil]; omega, rfl⟩, ?_⟩
    rintro _ w16 ⟨s9, ws, vw, X, nb16, res16, h16, hsf9, hlen, heq⟩
    have hm := manyF_step wordsS_sinks ws s9
    rw [heq] at hm
    have hb9 := hbl.suf hsf9
    refine (peek_spec h16 0).mono ?_
    rintro _ w17 ⟨rfl, s17⟩
    have nb17 := nb16.still s17
    have res17 := res16.still s17
    have h17 := h16.still s17
    refine .inl ⟨_, _, rfl, ?_⟩
    rw [isW_peek]
    refine bsel_of (fun hy => ?_) (fun hy => ?_)
    · have hst : wordsS ws s9 = (partsF s9).and fun x => .ok (.inl (ws ++ [x.1], x.2)) := by unfold wordsS; rw [if_pos hy]
      rw [hst] at hm
      clear hst
      refine wordK_spec nb17 h17 hb9 (show ws.length < 1000000 by omega) (fun k w' hr o => ⟨o, ?_⟩) (fun z vw18 w18 X18 hr nb18 h18 m18 => ?_)
      · rw [hr] at hm
        have hm : manyF wordsS [] l0.tail = .bad k := hm
        rw [hm] at hres
        rw [← hres]
        rfl
      rw [hr] at hm
      have hz1 := partsF_eats _ _ hr
      have hz2 := partsF_suf _ _ hr
      exact ⟨⟨z.2, ws ++ [z.1], vw18, X18, nb18, res17.mod m18 (by intro e; omega), h18, hz2.trans hsf9, by simp only [List.length_append, List.length_cons, List.length_nil]; omega, hm.symm⟩, by rw [h18.len, h16.len]; omega⟩
    · have hst : wordsS ws s9 = .ok (.inr (ws, s9)) := by unfold wordsS; rw [if_neg (by rw [hy]; decide)]
      rw [hst] at hm
      have hm : manyF wordsS [] l0.tail = .ok (ws, s9) := hm
      rw [hm, Rs.ok_and] at hres
      clear hst hm heq
      refine allocK fun w19 r19 s19 z19 => (at_spec (h17.still s19) 1 (StrsAt.row (l := [tSemi]) r19) (by decide)).mono ?_
      rintro _ w20 ⟨rfl, s20⟩
      rw [atB_one (by decide)]
      have s1720 := s19.trans s20
      have nb20 := nb17.still s1720
      have res20 := res17.still s1720
      have h20 := h17.still s1720
      refine .inl ⟨_, rfl, bsel_of (fun hx1 => ?_) (fun hx1 => ?_)⟩
      · rw [if_pos (.inl hx1)] at hres
        exact wantK (fun _ => ⟨s9, ws, [tIn], vw, vo14, X, nb20, res20, h20, hsf9, hres.symm⟩) (fun hf => by cases hf)
      · refine allocK fun w21 r21 s21 z21 => (at_spec (h20.still s21) 2 (StrsAt.row (l := [[10]]) r21) (by decide)).mono ?_
        rintro _ w22 ⟨rfl, s22⟩
        rw [atB_one (by decide)]
        have s2022 := s21.trans s22
        have nb22 := nb20.still s2022
        refine .inl ⟨_, rfl, wantK (fun ht => ?_) (fun ht => ⟨nb22.only, ?_⟩)⟩
        · rw [if_pos (.inr ht)] at hres
          exact ⟨s9, ws, [tIn], vw, vo14, X, nb22, res20.still s2022, h20.still s2022, hsf9, hres.symm⟩
        · rw [if_neg (by rw [hx1, ht]; decide)] at hres
          rw [← hres]
  · rintro _ w28 ⟨s9, ws, os, vw, vo, X, nb28, res28, h28, hsf9, rfl⟩
    clear hres
    have hlv : eachE (lvS L).1 t ws os s9 = (bodyF (lvS L).1 (linesF (if isT 1 tSemi s9 = true then s9.tail else s9))).and fun b => .ok (.mk 8 false t ws [] [] os [b.1], b.2) := rfl
    rw [hlv]
    clear hlv
    refine (take_spec h28 1 (t := tSemi) (by decide)).mono ?_
    rintro _ w29 ⟨rfl, o29, h29⟩
    have hb29 : TB (if isT 1 tSemi s9 = true then s9.tail else s9) := (hbl.suf hsf9).suf (ite_suf _ s9)
    generalize (if isT 1 tSemi s9 = true then s9.tail else s9) = s10 at *
    refine .inl ⟨_, rfl, (lines_spec h29).mono ?_⟩
    rintro _ w30 ⟨rfl, o30, h30⟩
    have nb30 := (nb28.on o29).on o30
    have res30 := (res28.mod o29 (by omega)).mod o30 (by omega)
    refine .inl ⟨rfl, (body_of hL hc h30 (hb29.suf (linesF_suf _))).mono ?_⟩
    rintro e31 w31 ⟨o31, hp⟩
    have nb31 := nb30.on o31
    cases hr : bodyF (lvS L).1 (linesF s10) with
    | bad k =>
      rw [hr] at hp
      exact .inr ⟨_, hp, nb31.only, rfl⟩
    | ok z =>
    rw [hr] at hp
    obtain ⟨cs, rfl, hnd, h31⟩ := hp
    obtain ⟨pw, cw, pa, ca, pr, cr, po, co, pk, ck, rfl, _⟩ := hnd.outs
    refine .inl ⟨_, _, _, _, _, _, _, _, _, _, _, _, _, _, _, _, _, _, rfl, setK_spec nb30 o31 hnd fun vk12 w32 X12 nb32 m32 => ?_⟩
    exact nExit_spec5 nb32 ((res30.mod o31 (by omega)).mod m32 (by intro e; omega)) (Nat.lt_succ_self _) fun w' cs' m' o' hn' h5' => ⟨o', _, rfl, hn', (h31.mod m32 (by intro k hk e; omega)).mod m' (fun j hj e => by omega), h5'⟩
theorem function_of {L : Nat} (hL : L < 100) (hc : CmdS L) {g : Nat} {x : Nat × Txt} {y z : Nat × Txt} {r : Ts} (h : Pz w g (x :: y :: z :: r)) (hb : TB (x :: y :: z :: r)) : Calls Tryz.prog fn_syntax_parser_function #[.pointer (some ⟨g, 0, none⟩), .int .i64 (31 - ((L + 1 : Nat) : Int))] w (SyP w g (defF (lvS L).1 (x :: y :: z :: r))) := by
  refine syntax_parser_function_calls _ _ _ _ ?_
  have hg := h.lt
  have hlv : defF (lvS L).1 (x :: y :: z :: r) = ((lvS L).1 (linesF r)).and fun u => if 4 ≤ u.1.k ∧ u.1.k ≤ 9 then .ok (.mk 11 false x.2 [] [] [] [] [u.1], u.2) else .bad 100 := rfl
  rw [hlv]
  clear hlv
  refine allocK fun w1 r1 s1 z1 => (next_spec (h.still s1)).mono ?_
  rintro _ w2 ⟨rfl, o2, h2⟩
  have hz2 := o2.size
  refine .inl ⟨_, _, rfl, allocK fun w3 r3 s3 z3 => stK r3 (by simp) (by simp [Value.oneCell']) fun w4 r4 m4 z4 => ?_⟩
  have r4 : Row w4 w2.heap.size 31 ⟨ncell (.mk 11 false x.2 [] [] [] [] []) (.slice none 0 0) (.slice none 0 0) (.slice none 0 0) (.slice none 0 0) (.slice none 0 0)⟩ := r4
  have res4 : Row w4 w.heap.size 31 ⟨zcell⟩ := ((r1.mod o2 (by omega)).still s3).mod m4 (by omega)
  have o4 : Only g w w4 := Mod.trans ((s1.only.tr o2).tr s3.only) m4 (fun _ h => h) (fun i hi e => by omega)
  have h4 := (h2.still s3).mod m4 (by intro k hk e; omega)
  have nb4 := NB.mk0 (B := w.heap.size + 1) r4 o4 hg (by omega) (by omega) ⟨rfl, rfl, rfl, rfl, rfl⟩
  generalize hgn : w2.heap.size = gn at *
  refine (next_spec h4).mono ?_
  rintro _ w5 ⟨rfl, o5, h5⟩
  refine .inl ⟨_, _, rfl, (next_spec h5).mono ?_⟩
  rintro _ w6 ⟨rfl, o6, h6⟩
  refine .inl ⟨_, _, rfl, (lines_spec h6).mono ?_⟩
  rintro _ w7 ⟨rfl, o7, h7⟩
  have nb7 := ((nb4.on o5).on o6).on o7
  have res7 := ((res4.mod o5 (by omega)).mod o6 (by omega)).mod o7 (by omega)
  rw [dep_up hL]
  refine .inl ⟨rfl, (hc _ _ _ h7 (hb.tail.tail.tail.suf (linesF_suf r))).mono ?_⟩
  rintro e8 w8 ⟨o8, hp⟩
  have nb8 := nb7.on o8
  cases hr : (lvS L).1 (linesF r) with
  | bad k =>
    rw [hr] at hp
    exact .inr ⟨_, hp, nb8.only, rfl⟩
  | ok u =>
  rw [hr] at hp
  obtain ⟨cs, rfl, hnd, h8⟩ := hp
  obtain ⟨pw, cw, pa, ca, pr, cr, po, co, pk, ck, rfl, _⟩ := hnd.outs
  have hl8 := nb8.row.lt
  have hz8 := o8.size
  have hl7 := nb7.row.lt
  rw [Rs.ok_and]
  refine .inl ⟨_, _, _, _, _, _, _, _, _, _, _, _, _, _, _, _, _, _, rfl, allocK fun w9 r9 s9 z9 => stK r9 (by simp) (by simp [Value.oneCell']) fun w10 r10 m10 z10 => ?_⟩
  have r10 : Row w10 w8.heap.size 31 ⟨ncell u.1 (.slice pw u.1.ws.length cw) (.slice pa u.1.as.length ca) (.slice pr u.1.rs.length cr) (.slice po u.1.os.length co) (.slice pk u.1.ks.length ck)⟩ := r10
  have o710 : Only g w7 w10 := Mod.trans (o8.tr s9.only) m10 (fun _ h => h) (fun i hi e => by omega)
  have nb10 := nb7.on o710
  have h10 := (h8.still s9).mod m10 (by intro k hk e; omega)
  have hnd10 := (hnd.still s9).mod m10 (fun k hk e => by omega)
  have res10 := res7.mod o710 (by omega)
  refine ⟨fun w13 => w13 = w10 ∧ (4 ≤ u.1.k ∧ u.1.k ≤ 9), ⟨u.1.k, r10.lget rfl, bsel_of (fun h4 => ⟨u.1.k, r10.lget rfl, wantK (fun h9 => ⟨rfl, of_decide_eq_true h4, of_decide_eq_true h9⟩) (fun h9 => ⟨nb10.only, ?_⟩)⟩) (fun h4 => wantK (fun hf => by cases hf) (fun _ => ⟨nb10.only, ?_⟩))⟩, ?_⟩
  · rw [if_neg (fun hk => of_decide_eq_false h9 hk.2)]
  · rw [if_neg (fun hk => of_decide_eq_false h4 hk.1)]
  rintro _ w13 ⟨rfl, hk⟩
  rw [if_pos hk]
  refine ⟨_, _, _, _, _, _, _, _, _, _, _, _, _, _, _, _, _, _, r10.lget rfl, r10.lget rfl, r10.lget rfl, r10.lget rfl, r10.lget rfl, r10.lget rfl, r10.lget rfl, r10.lget rfl, setK_spec nb7 o710 (hnd10.mono fun k hk => ⟨hk.1, by omega⟩) fun vk12 w14 X12 nb14 m14 => ?_⟩
  exact nExit_spec nb14 (res10.mod m14 (by intro e; omega)) (Nat.lt_succ_self _) fun w' cs' m' o' hn' => ⟨o', _, rfl, hn', (h10.mod m14 (by intro k hk e; omega)).mod m' fun j hj e => by omega⟩
theorem simpleS_red {a : List (List Pt) × List (Txt × List Pt) × List (Txt × List Pt)} {s : Ts} (h : redirB s = true) : simpleS a s = (redirF s).and fun x => .ok (.inl ((a.1, a.2.1, a.2.2 ++ [x.1]), x.2)) := by
  unfold simpleS
  rw [if_pos h]
theorem simpleS_end {a : List (List Pt) × List (Txt × List Pt) × List (Txt × List Pt)} {s : Ts} (h : redirB s = false) (hk : isW s = false) : simpleS a s = if a.1.length + a.2.1.length + a.2.2.length = 0 then .bad 100 else .ok (.inr (.mk 0 false [] a.1 a.2.1 a.2.2 [] [], s)) := by
  unfold simpleS
  rw [if_neg (by rw [h]; decide)]
  match s, hk with
  | [], _ => rfl
  | (k, t) :: r, hk => simp only [if_neg (of_decide_eq_false hk)]
theorem simpleS_asg {a : List (List Pt) × List (Txt × List Pt) × List (Txt × List Pt)} {t : Txt} {r : Ts} {R : Rs ((Txt × List Pt) × Ts)} (h : redirB ((0, t) :: r) = false) (ha : a.1 = []) (hR : asgR ((0, t) :: r) = some R) : simpleS a ((0, t) :: r) = R.and fun x => .ok (.inl ((a.1, a.2.1 ++ [x.1], a.2.2), x.2)) := by
  unfold simpleS
  rw [if_neg (by rw [h]; decide)]
  simp only [if_pos ha, asgR] at hR ⊢
  cases hy : asgF t with
  | none => rw [hy] at hR; cases hR
  | some y =>
    rw [hy] at hR
    obtain rfl := Option.some.inj hR
    simp only [↓reduceIte]
    cases wpL 30 y.2 <;> rfl
theorem simpleS_word {a : List (List Pt) × List (Txt × List Pt) × List (Txt × List Pt)} {t : Txt} {r : Ts} (h : redirB ((0, t) :: r) = false) (ha : a.1 ≠ [] ∨ asgR ((0, t) :: r) = none) : simpleS a ((0, t) :: r) = (partsF ((0, t) :: r)).and fun x => .ok (.inl ((a.1 ++ [x.1], a.2.1, a.2.2), x.2)) := by
  unfold simpleS
  rw [if_neg (by rw [h]; decide)]
  have hn : (if a.1 = [] then asgF t else none) = none := by
    rcases ha with ha | ha
    · rw [if_neg ha]
    · split
      · cases hy : asgF t with
        | none => rfl
        | some y => simp only [asgR, hy] at ha; cases ha
      · rfl
  simp only [hn, partsF, ↓reduceIte]
  cases wpL 30 t <;> rfl
theorem simple_spec {g : Nat} {s : Ts} (h : Pz w g s) (hb : TB s) : Calls Tryz.prog fn_syntax_parser_simple #[.pointer (some ⟨g, 0, none⟩)] w (SyP w g (simpleF s)) := by
  refine syntax_parser_simple_calls _ _ _ ?_
  have hg := h.lt
  have hs0 := hb.1
  refine allocK fun w1 r1 s1 z1 => ?_
  have r1 : Row w1 w.heap.size 31 ⟨ncell (.mk 0 false [] [] [] [] [] []) (.slice none 0 0) (.slice none 0 0) (.slice none 0 0) (.slice none 0 0) (.slice none 0 0)⟩ := r1
  have nb1 := NB.mk0 (B := w.heap.size) r1 s1.only hg (Nat.le_refl _) (Nat.le_refl _) ⟨rfl, rfl, rfl, rfl, rfl⟩
  refine ⟨fun w2 => ∃ s9 ws asn rs vw va vr X, NB w w2 g w.heap.size w.heap.size X (.mk 0 false [] ws asn rs [] []) vw va vr (.slice none 0 0) (.slice none 0 0) ∧ Pz w2 g s9 ∧ s9 <:+ s ∧ ws.length + asn.length + rs.length + s9.length ≤ s.length ∧ manyF simpleS (ws, asn, rs) s9 = simpleF s, pzLen g, ⟨s, [], [], [], _, _, _, _, nb1, h.still s1, List.suffix_refl _, by simp only [List.length_nil]; omega, rfl⟩, ?_⟩
  rintro _ w2 ⟨s9, ws, asn, rs, vw, va, vr, X, nb2, h2, hsf9, hlen, heq⟩
  have hm := manyF_step simpleS_sinks (ws, asn, rs) s9
  rw [heq] at hm
  clear heq
  have hb9 := hb.suf hsf9
  refine (redirects_spec h2).mono ?_
  rintro _ w3 ⟨rfl, s3⟩
  have nb3 := nb2.still s3
  have h3 := h2.still s3
  refine .inl ⟨_, rfl, bsel_of (fun hx => ?_) (fun hx => ?_)⟩
  · have hst := simpleS_red (a := (ws, asn, rs)) hx
    rw [hst] at hm
    refine redK_spec nb3 h3 hb9 (by rintro rfl; cases hx) (show rs.length < 1000000 by omega) (fun k w' hr o => ⟨o, ?_⟩) (fun z vr4 w4 X4 hr nb4 h4 m4 => ?_)
    · rw [hr] at hm
      have hm : simpleF s = .bad k := hm
      rw [hm]
    rw [hr] at hm
    have hz1 := redirF_eats _ _ hr
    have hz2 := redirF_suf _ _ hr
    exact ⟨⟨z.2, ws, asn, rs ++ [z.1], vw, va, vr4, X4, nb4, h4, hz2.trans hsf9, by simp only [List.length_append, List.length_cons, List.length_nil]; omega, hm.symm⟩, by rw [h4.len, h2.len]; omega⟩
  refine (peek_spec h3 0).mono ?_
  rintro _ w8 ⟨rfl, s8⟩
  have nb8 := nb3.still s8
  have h8 := h3.still s8
  refine .inl ⟨_, _, rfl, ?_⟩
  rw [isW_peek]
  obtain ⟨pw, cw, rfl⟩ := nb8.ow.form
  obtain ⟨pa, ca, rfl⟩ := nb8.oa.form
  obtain ⟨pr, cr, rfl⟩ := nb8.ord.form
  refine bsel_of (fun hk => ?_) (fun hk => ?_)
  · have hk : isW s9 = false := by simpa using hk
    rw [simpleS_end hx hk] at hm
    simp only at hm
    refine ⟨pw, ws.length, cw, nb8.row.lget rfl, pa, asn.length, ca, nb8.row.lget rfl, pr, rs.length, cr, nb8.row.lget rfl, wantK (fun ht => ?_) (fun ht => ⟨nb8.only, ?_⟩)⟩
    · have ht := of_decide_eq_true ht
      rw [wrap_i64 (n := (ws.length : Int) + (asn.length : Int)) (by omega) (by omega), wrap_i64 (by omega) (by omega)] at ht
      rw [if_neg (by omega)] at hm
      have hm : simpleF s = .ok (.mk 0 false [] ws asn rs [] [], s9) := hm
      refine nExit_self nb8 fun w' cs' m' o' hn' => ⟨o', ?_⟩
      rw [hm]
      exact ⟨_, rfl, hn', h8.mod m' fun j hj e => by omega⟩
    · have ht := of_decide_eq_false ht
      rw [wrap_i64 (n := (ws.length : Int) + (asn.length : Int)) (by omega) (by omega), wrap_i64 (by omega) (by omega)] at ht
      rw [if_pos (by omega)] at hm
      have hm : simpleF s = .bad 100 := hm
      rw [hm]
  have hk : isW s9 = true := by simpa using hk
  obtain ⟨t, r, rfl⟩ : ∃ t r, s9 = (0, t) :: r := by
    match s9, hk with
    | (k, t) :: r, hk => exact ⟨t, r, by rw [show k = 0 from of_decide_eq_true hk]⟩
  simp only [List.length_cons] at hlen
  refine ⟨fun w17 => NB w w17 g w.heap.size w.heap.size X (.mk 0 false [] ws asn rs [] []) (.slice pw ws.length cw) (.slice pa asn.length ca) (.slice pr rs.length cr) (.slice none 0 0) (.slice none 0 0) ∧ Pz w17 g ((0, t) :: r) ∧ (ws ≠ [] ∨ asgR ((0, t) :: r) = none), ⟨pw, ws.length, cw, nb8.row.lget rfl, bsel_of (fun he => ?_) (fun he => ?_)⟩, ?_⟩
  · have hws : ws = [] := List.eq_nil_of_length_eq_zero (by have := of_decide_eq_true he; omega)
    refine (assignment_spec h8 hb9).mono ?_
    rintro e11 w11 ⟨o11, hp⟩
    have hz11 := o11.size
    have hl8 := nb8.row.lt
    cases hR : asgR ((0, t) :: r) with
    | none =>
      rw [hR] at hp
      obtain ⟨t', p', n', c', rfl, h11⟩ := hp
      refine .inl ⟨_, _, _, _, _, rfl, allocK fun w12 r12 s12 z12 => stK r12 (by simp) (by simp [Value.oneCell']) fun w13 r13 m13 z13 => ?_⟩
      have o13 : Only g w8 w13 := Mod.trans (o11.tr s12.only) m13 (fun _ h => h) (fun i hi e => by omega)
      exact ⟨nb8.on o13, (h11.still s12).mod m13 (by intro k hk e; omega), .inr rfl⟩
    | some R =>
      rw [hR] at hp
      rw [simpleS_asg hx hws hR] at hm
      cases R with
      | bad k =>
        have hm : simpleF s = .bad k := hm
        exact .inr ⟨_, hp, (nb8.on o11).only, by rw [hm]⟩
      | ok z =>
        obtain ⟨p', c', rfl, hsl, h11⟩ := hp
        have hz1 := simpleS_sinks _ _ _ (simpleS_asg (a := (ws, asn, rs)) hx hws hR)
        have hz2 := simpleS_suf _ _ _ (simpleS_asg (a := (ws, asn, rs)) hx hws hR)
        have hz1 : z.2.length < ((0, t) :: r).length := hz1
        have hz2 : z.2 <:+ (0, t) :: r := hz2
        simp only [List.length_cons] at hz1
        refine .inl ⟨_, _, _, _, _, rfl, allocK fun w12 r12 s12 z12 => stK r12 (by simp) (by simp [Value.oneCell']) fun w13 r13 m13 z13 => ?_⟩
        have o13 : Only g w8 w13 := Mod.trans (o11.tr s12.only) m13 (fun _ h => h) (fun i hi e => by omega)
        have h13 := (h11.still s12).mod m13 (by intro k hk e; omega)
        have nb13 := nb8.on o13
        have hsl13 : SlAt w13 (fun k => w8.heap.size ≤ k ∧ k < w13.heap.size) z.1.2 (.slice p' z.1.2.length c') := hsl.turn (fun k hk => ⟨by omega, by omega⟩) fun a v ⟨k, hk, ea⟩ hcell => mod_cell m13 (by rw [ea]; show ¬ k = w11.heap.size; omega) (s12.cell hcell)
        refine ⟨pa, asn.length, ca, nb13.row.lget rfl, z.1.1, p', z.1.2.length, c', r13.lget rfl, r13.lget rfl, NB.addA' (y := z.1) nb8 o13 ⟨_, rfl, hsl13⟩ (show asn.length < 1000000 by omega) fun p2 c2 w16 X16 nb16 m16 => ?_⟩
        have h16 := h13.mod m16 (by intro k hk e; omega)
        exact ⟨⟨z.2, ws, asn ++ [z.1], rs, _, _, _, X16, nb16, h16, hz2.trans hsf9, by simp only [List.length_append, List.length_cons, List.length_nil]; omega, hm.symm⟩, by rw [h16.len, h2.len]; simp only [List.length_cons]; omega⟩
  · exact ⟨nb8, h8, .inl (by rintro rfl; exact of_decide_eq_false he rfl)⟩
  · rintro _ w17 ⟨nb17, h17, hor⟩
    rw [simpleS_word (a := (ws, asn, rs)) hx hor] at hm
    refine wordK_spec nb17 h17 hb9 (show ws.length < 1000000 by omega) (fun k w' hr o => ⟨o, ?_⟩) (fun z vw9 w9 X9 hr nb9 h9 m9 => ?_)
    · rw [hr] at hm
      have hm : simpleF s = .bad k := hm
      rw [hm]
    rw [hr] at hm
    have hz1 := partsF_eats _ _ hr
    have hz2 := partsF_suf _ _ hr
    simp only [List.length_cons] at hz1
    exact ⟨⟨z.2, ws ++ [z.1], asn, rs, vw9, _, _, X9, nb9, h9, hz2.trans hsf9, by simp only [List.length_append, List.length_cons, List.length_nil]; omega, hm.symm⟩, by rw [h9.len, h2.len]; simp only [List.length_cons]; omega⟩
end Go.Proofs.YtcoeiiihmpnagaaGreatDoor
namespace Go.Proofs.YtcoeiiihmpnagaaGreatDoor
open Go.RowKit Vc
variable {w : World}
abbrev Nd.noR (x : Nd) : Nd := .mk x.k x.neg x.nm x.ws x.as [] x.os x.ks
structure NR (w0 w : World) (g gn B : Nat) (X : Nat → Prop) (x : Nd) (vw va vr vo vk : Value) : Prop where
  row : Row w gn 31 ⟨ncell x vw va vr vo vk⟩
  only : Only g w0 w
  hg : g < w0.heap.size
  hB : w0.heap.size ≤ B
  hgn : B ≤ gn
  xs : ∀ k, X k → k < w.heap.size ∧ B ≤ k
  xg : X gn
  ord : nsE.OutX w B 58 X gn x.rs vr
  rest : NdE w (fun k => B ≤ k ∧ k < w.heap.size ∧ ¬ X k) x.noR (ncell x.noR vw va (.slice none 0 0) vo vk)
section
variable {w0 w1 w' : World} {g gn B : Nat} {X : Nat → Prop} {x : Nd} {vw va vr vo vk : Value}
theorem NR.on (h : NR w0 w g gn B X x vw va vr vo vk) (hm : Only g w w') : NR w0 w' g gn B X x vw va vr vo vk := by
  have hz := hm.size
  have hg := h.hg
  have hB := h.hB
  have hgn := h.hgn
  refine ⟨h.row.mod hm (by omega), h.only.tr hm, hg, hB, hgn, fun k hk => ⟨Nat.lt_of_lt_of_le (h.xs k hk).1 hz, (h.xs k hk).2⟩, h.xg, h.ord.mod hm (fun k h1 h2 (h3 : k = g) => by omega) (fun _ h => h) (fun _ h => .inl h), ?_⟩
  exact (h.rest.mod hm fun k hk (e : k = g) => by omega).mono fun k hk => ⟨hk.1, by omega, hk.2.2⟩
theorem NR.still (h : NR w0 w g gn B X x vw va vr vo vk) (hm : Still w w') : NR w0 w' g gn B X x vw va vr vo vk := h.on hm.only
theorem NR.nde (h : NR w0 w g gn B X x vw va vr vo vk) : NdE w (fun k => B ≤ k ∧ k < w.heap.size) x (ncell x vw va vr vo vk) := by
  obtain ⟨vw', va', vr', vo', vk', he, a1, a2, _, a4, a5⟩ := (h.rest.mono (G := fun k => B ≤ k ∧ k < w.heap.size) fun k hk => ⟨hk.1, hk.2.1⟩).out
  simp only [ncell, List.cons.injEq, true_and, and_true] at he
  obtain ⟨rfl, rfl, _, rfl, rfl⟩ := he
  exact NdE.of a1 a2 h.ord.at a4 a5
theorem NR.addR {p : Option Addr} {n c : Nat} {y : Txt × List Pt} {cs : List Value} (h : NR w0 w1 g gn B X x vw va (.slice p n c) vo vk) (o : Only g w1 w) (hy : nsE.E w (fun k => w1.heap.size ≤ k ∧ k < w.heap.size) y cs) (hn : x.rs.length < 1000000) {K : World → Prop}
    (hK : ∀ p' c' w' X', NR w0 w' g gn B X' (x.addR y) vw va (.slice p' (n + 1) c') vo vk → Mod (fun k => B ≤ k) w w' → K w') :
    letW (w.alloc (.cells ⟨cs⟩ 58)) (fun w2 => w2.cell? (Addr.mk gn 5 none) = some (.slice p n c) ∧ appK w2 58 2 40 p n c (some (Addr.mk w.heap.size 0 none)) 1 (fun p' c' w9 => stCells (Addr.mk gn 5 none) K 0 [.slice p' (n + 1) c'] w9)) := by
  have h2 := h.on o
  obtain ⟨_, _, _, he, _, hg, _⟩ := id h2.ord
  injection he with _ en _
  have hgl := h2.row.lt
  have hsz := h.only.size
  have hoz := o.size
  have hgn := h2.hgn
  have hB := h2.hB
  refine Enc.OutX.push (Sw := fun wq => wq.cell? (Addr.mk gn 5 none) = some (.slice p n c)) h2.ord (by omega) (fun k hk => (h2.xs k hk).1) hgl (fun wq hq => (h2.row.still hq).lget rfl) (nsE.turn (fun k hk => ⟨?_, hk.2, fun hx => ?_⟩) (fun _ _ _ h => h) hy) (by omega) (by omega) fun p' c' w9 ho9 hm9 hw9 hl9 => ?_
  · have := h.row.lt
    omega
  · have := (h.xs k hx).1
    omega
  have hr9 := h2.row.mod hm9 (fun hk => (hg gn hk).2 rfl)
  refine stK hr9 (by simp) (by simp [Value.oneCell']) fun w10 r10 m10 z10 => hK p' c' w10 (fun k => X k ∨ (Value.slice p' (n + 1) c').ownBlock = some k) ?_ ?_
  rotate_left
  · exact Mod.trans hm9 m10 (fun k hk => (h2.xs k (hg k hk).1).2) (fun k _ hk => by omega)
  have hz9 := hm9.size
  have hz10 := m10.size
  have own10 := ho9.mod m10 (X' := fun k => X k ∨ (Value.slice p' (n + 1) c').ownBlock = some k) (fun k _ _ e => by
    subst e
    obtain ⟨_, _, _, _, _, hgv, _⟩ := id ho9
    exact ⟨.inl h2.xg, fun hk => (hgv _ hk).2 rfl⟩) (fun _ h => h) (fun _ h => .inl h)
  have hlow : ∀ k, (Value.slice p' (n + 1) c').ownBlock = some k → B ≤ k := fun k hk => by
    rcases hw9 k hk with hk | hk
    · exact (h2.xs k hk).2
    · omega
  have rest9 : NdE w9 (fun k => B ≤ k ∧ k < w9.heap.size ∧ ¬ (X k ∨ (Value.slice p' (n + 1) c').ownBlock = some k)) x.noR _ := (h2.rest.mod hm9 fun k hk hs => hk.2.2 (hg k hs).1).mono fun k hk => ⟨hk.1, by omega, fun hx => hx.elim hk.2.2 fun hx => (hw9 k hx).elim hk.2.2 (fun h => by omega)⟩
  have rest10 := (rest9.mod m10 fun k hk (e : k = gn) => hk.2.2 (.inl (e ▸ h2.xg))).mono (G := fun k => B ≤ k ∧ k < w10.heap.size ∧ ¬ (X k ∨ (Value.slice p' (n + 1) c').ownBlock = some k)) fun k hk => ⟨hk.1, by omega, hk.2.2⟩
  refine ⟨r10, Mod.trans (Mod.trans h2.only hm9 (fun _ h => h) (fun i hi hk => by have := (h2.xs _ (hg _ hk).1).2; omega)) m10 (fun _ h => h) (fun i hi e => by omega), h2.hg, hB, hgn, fun k hk => ?_, .inl h2.xg, own10, rest10⟩
  rcases hk with hk | hk
  · have := h2.xs k hk
    exact ⟨by omega, this.2⟩
  · have := hl9 k hk
    exact ⟨by omega, hlow k hk⟩
theorem redR_spec (nb : NR w0 w1 g gn B X x vw va vr vo vk) {s : Ts} (hz : Pz w1 g s) (hb : TB s) (hs : s ≠ []) (hn : x.rs.length < 1000000) {K : World → Prop} {R : Ending → World → Prop}
    (hbad : ∀ k w', redirF s = .bad k → Only g w0 w' → R (.panicked (errP k)) w') (hok : ∀ y vr' w' X', redirF s = .ok y → NR w0 w' g gn B X' (x.addR y.1) vw va vr' vo vk → Pz w' g y.2 → Mod (fun k => k = g ∨ B ≤ k) w1 w' → K w') : redK g gn w1 K R := by
  obtain ⟨p, c, rfl⟩ := nb.ord.form
  have nb' := nb.still (drew_still w1)
  refine ⟨fun wq => wq.cell? (Addr.mk gn 5 none) = some (.slice p x.rs.length c), nb'.row.lget rfl, p, x.rs.length, c, fun _ h => h, ?_⟩
  refine (redir_spec (hz.still (drew_still w1)) hb hs).mono ?_
  rintro e5 w5 ⟨o5, hp⟩
  have nb5 := nb'.on o5
  cases hr : redirF s with
  | bad k =>
    rw [hr] at hp
    exact .inr ⟨_, hp, hbad k w5 hr nb5.only⟩
  | ok y =>
    rw [hr] at hp
    obtain ⟨v, rfl, hsl, h5⟩ := hp
    obtain ⟨q, d, rfl⟩ := hsl.form
    refine .inl ⟨_, _, _, _, rfl, nb5.row.lget rfl, NR.addR (x := x) (y := y.1) nb' o5 ⟨_, rfl, hsl⟩ hn fun p' c' w' X' nb6 hm => ?_⟩
    have hB := nb.hB
    have hg := nb.hg
    exact hok y _ w' X' hr nb6 (h5.mod hm fun k hk hb => by omega) (Mod.trans (Mod.trans ((drew_still w1).weaken fun _ h => h.elim) o5 (fun _ h => h) (fun _ _ h => .inl h)) hm (fun _ h => h) (fun _ _ h => .inr h))
theorem nExit_red {R : Ending → World → Prop} (h : NR w0 w g gn B X x vw va vr vo vk) (hres : Row w w0.heap.size 31 ⟨zcell⟩) (hB : w0.heap.size < B)
    (hR : ∀ w' cs, Mod (fun k => k = w0.heap.size) w w' → Only g w0 w' → NdE w' (fun k => w0.heap.size ≤ k ∧ k < w'.heap.size) x cs → R (.returned (.agg ⟨cs⟩)) w') : NExit gn w0.heap.size w R :=
  nExit_row h.row h.nde h.only hres hB hR
theorem NR.mk0 (hr : Row w gn 31 ⟨ncell x vw va (.slice none 0 0) vo vk⟩) (ho : Only g w0 w) (hg : g < w0.heap.size) (hB : w0.heap.size ≤ B) (hgn : B ≤ gn) (hx : x.rs = []) (hn : NdE w (fun k => B ≤ k ∧ k < w.heap.size ∧ k ≠ gn) x (ncell x vw va (.slice none 0 0) vo vk)) : NR w0 w g gn B (fun k => k = gn) x vw va (.slice none 0 0) vo vk := by
  refine ⟨hr, ho, hg, hB, hgn, fun k hk => by subst hk; exact ⟨hr.lt, hgn⟩, rfl, by rw [hx]; exact Enc.OutX.nil _ _ _ _ _ _, ?_⟩
  have e : x.noR = x := by
    cases x
    simp only [Nd.noR, Nd.rs] at hx ⊢
    rw [hx]
    rfl
  rw [e]
  exact hn
end
end Go.Proofs.YtcoeiiihmpnagaaGreatDoor
