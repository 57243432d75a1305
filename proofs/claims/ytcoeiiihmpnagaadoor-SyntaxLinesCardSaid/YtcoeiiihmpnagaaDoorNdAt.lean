/- Nodes of scripts, and tokens, in the heap. Conditions: as each theorem names them. -/
import Derived.Test.YtcoeiiihmpnagaaDoorEnc
import Derived.Test.YtcoeiiihmpnagaaDoorM2
namespace Go.Proofs.YtcoeiiihmpnagaaDoor
open Go.RowKit Vc
variable {w : World}

/-- A word: a slice of parts. -/
def wsE : Enc (List Pt) where
  sz := 1
  E := fun w F x cs => ∃ v, cs = [v] ∧ SlAt w F x v
  len := by rintro w F x cs ⟨v, rfl, _⟩; rfl
  one := by rintro w F x cs ⟨v, rfl, h⟩ u hu; rw [List.mem_singleton.1 hu]; exact h.one
  turn := by rintro w w' F G x cs hF hw ⟨v, rfl, h⟩; exact ⟨v, rfl, h.turn hF hw⟩
/-- An assignment, or a redirection. -/
def nsE : Enc (Txt × List Pt) where
  sz := 2
  E := fun w F x cs => ∃ v, cs = [.string (S x.1), v] ∧ SlAt w F x.2 v
  len := by rintro w F x cs ⟨v, rfl, _⟩; rfl
  one := by
    rintro w F x cs ⟨v, rfl, h⟩ u hu
    simp only [List.mem_cons, List.not_mem_nil, or_false] at hu
    rcases hu with rfl | rfl
    · rfl
    · exact h.one
  turn := by rintro w w' F G x cs hF hw ⟨v, rfl, h⟩; exact ⟨v, rfl, h.turn hF hw⟩
/-- A text. -/
def osE : Enc Txt where
  sz := 1
  E := fun _ _ x cs => cs = [.string (S x)]
  len := by rintro w F x cs rfl; rfl
  one := by rintro w F x cs rfl u hu; rw [List.mem_singleton.1 hu]; rfl
  turn := by rintro w w' F G x cs _ _ rfl; rfl
/-- A token. -/
def tkE : Enc (Nat × Txt) where
  sz := 2
  E := fun _ _ x cs => cs = [.int .i64 (x.1 : Int), .string (S x.2)]
  len := by rintro w F x cs rfl; rfl
  one := by
    rintro w F x cs rfl u hu
    simp only [List.mem_cons, List.not_mem_nil, or_false] at hu
    rcases hu with rfl | rfl <;> rfl
  turn := by rintro w w' F G x cs _ _ rfl; rfl
mutual
/-- A node's cells. -/
def NdE (w : World) (F : Nat → Prop) : Nd → List Value → Prop
  | .mk k neg nm ws as rs os ks, cs => ∃ vw va vr vo p c, cs = [.int .i64 k, .bool neg, .string (S nm), vw, va, vr, vo, .slice p ks.length c] ∧ wsE.At w F ws vw ∧ nsE.At w F as va ∧ nsE.At w F rs vr ∧ osE.At w F os vo ∧ ks.length ≤ c ∧
      (ks ≠ [] → ∃ b xs, p = some b ∧ F b.block ∧ NdCs w F ks xs ∧ CellsAt w b xs)
def NdCs (w : World) (F : Nat → Prop) : List Nd → List Value → Prop
  | [], xs => xs = []
  | x :: r, xs => ∃ cs ys, xs = cs ++ ys ∧ NdE w F x cs ∧ NdCs w F r ys
end
mutual
theorem NdE.turn {F G : Nat → Prop} {w' : World} (hF : ∀ k, F k → G k) (hw : ∀ a v, (∃ k, F k ∧ a.block = k) → w.cell? a = some v → w'.cell? a = some v) : ∀ {x : Nd} {cs : List Value}, NdE w F x cs → NdE w' G x cs
  | .mk k neg nm ws as rs os ks, cs, h => by
    simp only [NdE] at h ⊢
    obtain ⟨vw, va, vr, vo, p, c, h1, h2, h3, h4, h5, h6, h7⟩ := h
    refine ⟨vw, va, vr, vo, p, c, h1, h2.turn hF hw, h3.turn hF hw, h4.turn hF hw, h5.turn hF hw, h6, fun hl => ?_⟩
    obtain ⟨b, xs, hb, h8, h9, h10⟩ := h7 hl
    exact ⟨b, xs, hb, hF _ h8, NdCs.turn hF hw h9, fun j u hu => hw _ _ ⟨_, h8, add_block b j⟩ (h10 j u hu)⟩
theorem NdCs.turn {F G : Nat → Prop} {w' : World} (hF : ∀ k, F k → G k) (hw : ∀ a v, (∃ k, F k ∧ a.block = k) → w.cell? a = some v → w'.cell? a = some v) : ∀ {l : List Nd} {xs : List Value}, NdCs w F l xs → NdCs w' G l xs
  | [], xs, h => by simp only [NdCs] at h ⊢; exact h
  | x :: r, xs, h => by
    simp only [NdCs] at h ⊢
    obtain ⟨cs, ys, h1, h2, h3⟩ := h
    exact ⟨cs, ys, h1, NdE.turn hF hw h2, NdCs.turn hF hw h3⟩
end
theorem NdE.raw {F : Nat → Prop} {x : Nd} {cs : List Value} (h : NdE w F x cs) : ∃ vw va vr vo vk, cs = [.int .i64 x.k, .bool x.neg, .string (S x.nm), vw, va, vr, vo, vk] ∧ vw.oneCell' = true ∧ va.oneCell' = true ∧ vr.oneCell' = true ∧ vo.oneCell' = true ∧ vk.oneCell' = true := by
  cases x with
  | mk k neg nm ws as rs os ks =>
    simp only [NdE] at h
    obtain ⟨vw, va, vr, vo, p, c, h1, h2, h3, h4, h5, _⟩ := h
    exact ⟨vw, va, vr, vo, _, h1, h2.one, h3.one, h4.one, h5.one, rfl⟩
/-- A node. -/
def ndE : Enc Nd where
  sz := 8
  E := NdE
  len := by
    intro w F x cs h
    obtain ⟨vw, va, vr, vo, vk, rfl, _⟩ := h.raw
    rfl
  one := by
    intro w F x cs h u hu
    obtain ⟨vw, va, vr, vo, vk, rfl, h1, h2, h3, h4, h5⟩ := h.raw
    simp only [List.mem_cons, List.not_mem_nil, or_false] at hu
    rcases hu with rfl | rfl | rfl | rfl | rfl | rfl | rfl | rfl <;> first | rfl | assumption
  turn := fun hF hw h => h.turn hF hw
theorem ndCs {F : Nat → Prop} : ∀ {l : List Nd} {xs : List Value}, NdCs w F l xs ↔ ndE.Cs w F l xs
  | [], xs => by simp only [NdCs]; exact Iff.rfl
  | x :: r, xs => by
    simp only [NdCs]
    constructor
    · rintro ⟨cs, ys, h1, h2, h3⟩
      exact ⟨cs, ys, h1, h2, ndCs.1 h3⟩
    · rintro ⟨cs, ys, h1, h2, h3⟩
      exact ⟨cs, ys, h1, h2, ndCs.2 h3⟩
/-- A node's cells, of its lists' slices. -/
abbrev ncell (x : Nd) (vw va vr vo vk : Value) : List Value := [.int .i64 x.k, .bool x.neg, .string (S x.nm), vw, va, vr, vo, vk]
theorem NdE.of {F : Nat → Prop} {x : Nd} {vw va vr vo vk : Value} (h1 : wsE.At w F x.ws vw) (h2 : nsE.At w F x.as va) (h3 : nsE.At w F x.rs vr) (h4 : osE.At w F x.os vo) (h5 : ndE.At w F x.ks vk) : NdE w F x (ncell x vw va vr vo vk) := by
  cases x with
  | mk k neg nm ws as rs os ks =>
    obtain ⟨p, c, rfl, h6, h7⟩ := h5
    simp only [NdE]
    refine ⟨vw, va, vr, vo, p, c, rfl, h1, h2, h3, h4, h6, fun hl => ?_⟩
    obtain ⟨b, xs, h8, h9, h10, h11⟩ := h7 hl
    exact ⟨b, xs, h8, h9, ndCs.2 h10, h11⟩
theorem NdE.out {F : Nat → Prop} {x : Nd} {cs : List Value} (h : NdE w F x cs) : ∃ vw va vr vo vk, cs = ncell x vw va vr vo vk ∧ wsE.At w F x.ws vw ∧ nsE.At w F x.as va ∧ nsE.At w F x.rs vr ∧ osE.At w F x.os vo ∧ ndE.At w F x.ks vk := by
  cases x with
  | mk k neg nm ws as rs os ks =>
    simp only [NdE] at h
    obtain ⟨vw, va, vr, vo, p, c, h1, h2, h3, h4, h5, h6, h7⟩ := h
    refine ⟨vw, va, vr, vo, _, h1, h2, h3, h4, h5, p, c, rfl, h6, fun hl => ?_⟩
    obtain ⟨b, xs, h8, h9, h10, h11⟩ := h7 hl
    exact ⟨b, xs, h8, h9, ndCs.1 h10, h11⟩
/-- The same, with the slices' forms. -/
theorem NdE.outs {F : Nat → Prop} {x : Nd} {cs : List Value} (h : NdE w F x cs) : ∃ pw cw pa ca pr cr po co pk ck, cs = ncell x (.slice pw x.ws.length cw) (.slice pa x.as.length ca) (.slice pr x.rs.length cr) (.slice po x.os.length co) (.slice pk x.ks.length ck) ∧
    wsE.At w F x.ws (.slice pw x.ws.length cw) ∧ nsE.At w F x.as (.slice pa x.as.length ca) ∧ nsE.At w F x.rs (.slice pr x.rs.length cr) ∧ osE.At w F x.os (.slice po x.os.length co) ∧ ndE.At w F x.ks (.slice pk x.ks.length ck) := by
  obtain ⟨vw, va, vr, vo, vk, rfl, h1, h2, h3, h4, h5⟩ := h.out
  obtain ⟨pw, cw, rfl⟩ := h1.form
  obtain ⟨pa, ca, rfl⟩ := h2.form
  obtain ⟨pr, cr, rfl⟩ := h3.form
  obtain ⟨po, co, rfl⟩ := h4.form
  obtain ⟨pk, ck, rfl⟩ := h5.form
  exact ⟨pw, cw, pa, ca, pr, cr, po, co, pk, ck, rfl, h1, h2, h3, h4, h5⟩
theorem NdE.mono {F G : Nat → Prop} {x : Nd} {cs : List Value} (hF : ∀ k, F k → G k) (h : NdE w F x cs) : NdE w G x cs := h.turn hF fun _ _ _ h => h
theorem NdE.mod {F S : Nat → Prop} {w' : World} {x : Nd} {cs : List Value} (h : NdE w F x cs) (hm : Mod S w w') (hS : ∀ k, F k → ¬ S k) : NdE w' F x cs :=
  h.turn (fun _ h => h) fun a v ⟨k, hk, ea⟩ hc => mod_cell hm (by rw [ea]; exact hS k hk) hc
theorem NdE.still {F : Nat → Prop} {w' : World} {x : Nd} {cs : List Value} (h : NdE w F x cs) (hm : Still w w') : NdE w' F x cs := h.mod hm fun _ _ h => h
theorem ncell_one {x : Nd} {pw pa pr po pk : Option Addr} {a b c d e a' b' c' d' e' : Nat} : ∀ v ∈ ncell x (.slice pw a a') (.slice pa b b') (.slice pr c c') (.slice po d d') (.slice pk e e'), v.oneCell' = true := by simp [ncell, Value.oneCell']
end Go.Proofs.YtcoeiiihmpnagaaDoor
