/- Texts of one proof, one behind the other. Conditions: as each theorem names them. -/
import Derived.Test.YtkdlmkbpfdogcaaGreatDoorQ6
namespace Go.Proofs.YtkdlmkbpfdogcaaGreatDoor
open Go.RowKit Vc
variable {w w0 : World}
theorem Row.ty_eq {g : Nat} {t t' : TypeId} {cs cs' : Array Value} (h : Row w g t cs) (h' : Row w g t' cs') : t = t' := by
  by_cases e : t = t'
  · exact e
  · exact absurd rfl (h.ne h' e)
def NoCa (t : TypeId) : Prop := t ≠ ty_api_Memo ∧ t ≠ ty_cache_Cache ∧ t ≠ ty_scullionref22_Cache
structure JK (w0 : World) where
  J : World → Option Nat → Js → Prop
  gj : Nat
  g : Nat
  b : Nat
  mod : ∀ {w w' : World} {T : Nat → Prop} {rp : Option Nat} {j : Js}, J w rp j → Mod T w w' → (∀ k, Foot gj g b rp k → ¬ T k) → J w' rp j
  foot : ∀ {w : World} {rp : Option Nat} {j : Js} {k : Nat}, J w rp j → Foot gj g b rp k → w0.heap.size ≤ k ∧ k < w.heap.size
  ty : ∀ {w : World} {rp : Option Nat} {j : Js} {k : Nat} {t : TypeId} {cs : Array Value}, J w rp j → Foot gj g b rp k → Row w k t cs → NoCa t
theorem jr_ty {gj g b : Nat} {rp : Option Nat} {j : Js} {k : Nat} {t : TypeId} {cs : Array Value} (h : Jr w0 w gj g b rp j) (hf : Foot gj g b rp k) (hr : Row w k t cs) : NoCa t := by
  obtain ⟨p, c, t1, t2, t3⟩ := h.top
  rcases hf with rfl | rfl | rfl | hk
  · rw [hr.ty_eq h.dev.top]; unfold NoCa; decide
  · rw [hr.ty_eq h.dev.bytes]; unfold NoCa; decide
  · rw [hr.ty_eq t1]; unfold NoCa; decide
  · obtain ⟨cur, hc⟩ := t2.typed (t3.trans hk)
    rw [hr.ty_eq hc]
    unfold NoCa
    decide
theorem rj_ty {hj h q : Nat} {rq : Option Nat} {j : Js} {k : Nat} {t : TypeId} {cs : Array Value} (d : Rj w0 w hj h q rq j) (hf : Foot hj h q rq k) (hr : Row w k t cs) : NoCa t := by
  obtain ⟨p, c, t1, t2, t3⟩ := d.top
  obtain ⟨⟨c', h1⟩, cur, h2, _⟩ := d.dev
  rcases hf with rfl | rfl | rfl | hk
  · rw [hr.ty_eq h1]; unfold NoCa; decide
  · rw [hr.ty_eq h2]; unfold NoCa; decide
  · rw [hr.ty_eq t1]; unfold NoCa; decide
  · obtain ⟨cur, hc⟩ := t2.typed (t3.trans hk)
    rw [hr.ty_eq hc]
    unfold NoCa
    decide
def kJ (w0 : World) (gj g b : Nat) : JK w0 := ⟨fun w rp j => Jr w0 w gj g b rp j, gj, g, b, Jr.mod, fun h hk => Jr.foot h hk, jr_ty⟩
def kR (w0 : World) (hj h q : Nat) : JK w0 := ⟨fun w rq j => Rj w0 w hj h q rq j, hj, h, q, Rj.mod, fun h hk => Rj.foot h hk, rj_ty⟩
def CF (K : JK w0) (gc : Nat) (rp rm : Option Nat) (k : Nat) : Prop := Foot K.gj K.g K.b rp k ∨ k = gc ∨ rm = some k
structure Cj (K : JK w0) (w : World) (F : Nat → Prop) (tc gc : Nat) (rp rm : Option Nat) (j : Js) (l : List Mo) : Prop where
  jr : K.J w rp j
  top : ∃ p c xs, Row w gc tc ⟨[.pointer (some ⟨K.gj, 0, none⟩), .slice p l.length c]⟩ ∧ Owns w w0.heap.size ty_api_Memo 6 (.slice p l.length c) l.length xs ∧ (Value.slice p l.length c).ownBlock = rm ∧ moE.Cs w F l xs
  tyc : tc = ty_cache_Cache ∨ tc = ty_scullionref22_Cache
  low : w0.heap.size ≤ gc
  f0 : ∀ k, k < w0.heap.size → F k
  fl : ∀ k, F k → k < w.heap.size ∧ ¬ CF K gc rp rm k
section
variable {K : JK w0} {F : Nat → Prop} {tc gc : Nat} {rp rm : Option Nat} {j : Js} {l : List Mo}
theorem Cj.foot (h : Cj K w F tc gc rp rm j l) {k : Nat} (hk : CF K gc rp rm k) : w0.heap.size ≤ k ∧ k < w.heap.size := by
  obtain ⟨p, c, xs, t1, t2, t3, _⟩ := h.top
  rcases hk with hk | rfl | hk
  · exact K.foot h.jr hk
  · exact ⟨h.low, t1.lt⟩
  · exact t2.lt k (t3.trans hk)
theorem Cj.stays (h : Cj K w F tc gc rp rm j l) {w' : World} (h0 : Still w0 w) (hm : Mod (CF K gc rp rm) w w') : Still w0 w' := Mod.trans h0 hm (fun _ h => h) (fun i hi hk => by have := (h.foot hk).1; omega)
theorem Cj.mod (h : Cj K w F tc gc rp rm j l) {w' : World} {T : Nat → Prop} (hm : Mod T w w') (hT : ∀ k, CF K gc rp rm k → ¬ T k) (hF : ∀ k, F k → ¬ T k) : Cj K w' F tc gc rp rm j l := by
  obtain ⟨p, c, xs, t1, t2, t3, t4⟩ := h.top
  refine ⟨K.mod h.jr hm fun k hk => hT k (.inl hk), ⟨p, c, xs, t1.mod hm (hT _ (.inr (.inl rfl))), t2.mod hm fun k hk => hT k (.inr (.inr (t3.symm.trans hk))), t3, t4.turn (fun _ h => h) fun a v ⟨k, hk, ea⟩ hc => mod_cell hm (by rw [ea]; exact hF k hk) hc⟩, h.tyc, h.low, h.f0, fun k hk => ⟨Nat.lt_of_lt_of_le (h.fl k hk).1 hm.size, (h.fl k hk).2⟩⟩
theorem Cj.still (h : Cj K w F tc gc rp rm j l) {w' : World} (hm : Still w w') : Cj K w' F tc gc rp rm j l := h.mod hm (fun _ _ h => h) (fun _ _ h => h)
theorem Cj.widen (h : Cj K w F tc gc rp rm j l) {G : Nat → Prop} (hG : ∀ k, F k → G k) (hg : ∀ k, G k → k < w.heap.size ∧ ¬ CF K gc rp rm k) : Cj K w G tc gc rp rm j l := by
  obtain ⟨p, c, xs, t1, t2, t3, t4⟩ := h.top
  exact ⟨h.jr, ⟨p, c, xs, t1, t2, t3, t4.turn hG fun _ _ _ h => h⟩, h.tyc, h.low, fun k hk => hG k (h.f0 k hk), hg⟩
theorem Cj.apart (h : Cj K w F tc gc rp rm j l) : (∀ k, Foot K.gj K.g K.b rp k → k ≠ gc ∧ rm ≠ some k) ∧ rm ≠ some gc := by
  obtain ⟨p, c, xs, t1, t2, t3, _⟩ := h.top
  refine ⟨fun k hk => ⟨?_, fun e => ?_⟩, fun e => ?_⟩
  · rintro rfl
    have := K.ty h.jr hk t1
    rcases h.tyc with e | e
    · exact this.2.1 e
    · exact this.2.2 e
  · obtain ⟨cur, hc⟩ := t2.typed (t3.trans e)
    exact (K.ty h.jr hk hc).1 rfl
  · obtain ⟨cur, hc⟩ := t2.typed (t3.trans e)
    have e2 := hc.ty_eq t1
    rcases h.tyc with e | e <;> (rw [e] at e2; revert e2; decide)
theorem Cj.step (h : Cj K w F tc gc rp rm j l) {w' : World} {rp' : Option Nat} {j' : Js} (J : K.J w' rp' j') (m : Mod (Foot K.gj K.g K.b rp) w w') (n : NewOr rp rp' w) : Cj K w' F tc gc rp' rm j' l := by
  obtain ⟨ap, ag⟩ := h.apart
  obtain ⟨p, c, xs, t1, t2, t3, t4⟩ := h.top
  refine ⟨J, ⟨p, c, xs, t1.mod m fun hf => (ap _ hf).1 rfl, t2.mod m fun k hk hf => (ap _ hf).2 (t3.symm.trans hk), t3, t4.turn (fun _ h => h) fun a v ⟨k, hk, ea⟩ hc => mod_cell m (by rw [ea]; exact fun hf => (h.fl k hk).2 (.inl hf)) hc⟩, h.tyc, h.low, h.f0, fun k hk => ⟨Nat.lt_of_lt_of_le (h.fl k hk).1 m.size, ?_⟩⟩
  obtain ⟨g1, g2⟩ := h.fl k hk
  rintro (e | e | e)
  · rcases e with e | e | e | e
    · exact g2 (.inl (.inl e))
    · exact g2 (.inl (.inr (.inl e)))
    · exact g2 (.inl (.inr (.inr (.inl e))))
    · rcases n k e with e | e
      · exact g2 (.inl (.inr (.inr (.inr e))))
      · omega
  · exact g2 (.inr (.inl e))
  · exact g2 (.inr (.inr e))
def CM (gc : Nat) (rm : Option Nat) (k : Nat) : Prop := k = gc ∨ rm = some k
theorem Cj.push (h : Cj K w F tc gc rp rm j l) {p : Option Addr} {c : Nat} {xs cs : List Value} {m : Mo} {Kt : World → Prop} (t1 : Row w gc tc ⟨[.pointer (some ⟨K.gj, 0, none⟩), .slice p l.length c]⟩) (t2 : Owns w w0.heap.size ty_api_Memo 6 (.slice p l.length c) l.length xs)
    (t3 : (Value.slice p l.length c).ownBlock = rm) (t4 : moE.Cs w F l xs) (hx : moE.E w F m cs) (hw : w0.heap.size ≤ w.heap.size) (hl : l.length ≤ 100000)
    (hk : ∀ w' rm', Cj K w' F tc gc rp rm' j (l ++ [m]) → Mod (CM gc rm) w w' → NewOr rm rm' w → Kt w') :
    letW (w.alloc (.cells ⟨cs⟩ ty_api_Memo)) (fun w2 => appK w2 ty_api_Memo 6 104 p l.length c (some (Addr.mk w.heap.size 0 none)) 1 (fun p' c' w3 => stCells (Addr.mk gc 1 none) Kt 0 [.slice p' (l.length + 1) c'] w3)) := by
  obtain ⟨ap, ag⟩ := h.apart
  refine push1b t2 hw (moE.len hx) (moE.one hx) (by omega) (by omega) fun p' c' w2 o2 m2 n2 => ?_
  rw [t3] at n2
  have m2 : Mod (fun k => rm = some k) w w2 := m2.weaken fun k hk => t3.symm.trans hk
  have t12 := t1.mod m2 ag
  refine stK (g := gc) (o := 1) t12 (by simp) (by simp [Value.oneCell']) fun w3 r3 m3 z3 => ?_
  simp only [ovw, List.set_cons_succ, List.set_cons_zero] at r3
  have mm : Mod (CM gc rm) w w3 := Mod.trans m2 m3 (fun _ h => .inr h) (fun _ _ h => .inl h)
  have hgr : gc < w.heap.size := t1.lt
  refine hk w3 (Value.slice p' (l.length + 1) c').ownBlock ⟨K.mod h.jr mm fun k hf e => ?_, ⟨p', c', xs ++ cs, ?_, ?_, ?_, ?_⟩, h.tyc, h.low, h.f0, fun k hk => ⟨Nat.lt_of_lt_of_le (h.fl k hk).1 mm.size, ?_⟩⟩ mm n2
  · rcases e with e | e
    · exact (ap k hf).1 e
    · exact (ap k hf).2 e
  · rw [List.length_append]
    exact r3
  · rw [List.length_append]
    refine o2.mod m3 fun k hk e => ?_
    rcases n2 k hk with e2 | e2
    · exact ag (by rw [← e]; exact e2)
    · omega
  · rw [List.length_append]
    rfl
  · exact (t4.append (Enc.Cs.single hx)).turn (fun _ h => h) fun a v ⟨k, hk, ea⟩ hc => mod_cell mm (by
      rw [ea]
      rintro (e | e)
      · exact (h.fl k hk).2 (.inr (.inl e))
      · exact (h.fl k hk).2 (.inr (.inr e))) hc
  · obtain ⟨g1, g2⟩ := h.fl k hk
    rintro (e | e | e)
    · exact g2 (.inl e)
    · exact g2 (.inr (.inl e))
    · rcases n2 k e with e | e
      · exact g2 (.inr (.inr e))
      · omega
theorem moAt_of {B : Nat} {p : Option Addr} {c : Nat} {xs : List Value} (ho : Owns w B ty_api_Memo 6 (.slice p l.length c) l.length xs) (hc : moE.Cs w F l xs) : moE.At w (fun k => F k ∨ (B ≤ k ∧ k < w.heap.size)) l (.slice p l.length c) := by
  refine ⟨p, c, rfl, ho.capLe, fun hl => ?_⟩
  have hn : 0 < l.length := List.length_pos_iff.2 hl
  obtain ⟨g, cap, he, hB, hg, _, hcell⟩ := ho.ownAddr hn
  injection he with e1 e2 e3
  subst e1
  refine ⟨_, xs, rfl, .inr ⟨hB, hg⟩, hc.turn (fun k hk => .inl hk) (fun _ _ _ h => h), fun j u hu => ?_⟩
  rw [add_row, Nat.zero_add]
  exact hcell j u hu
def MemosR (F : Nat → Prop) (l : List Mo) (w : World) (e : Ending) (w' : World) : Prop := ∃ q D, e = .returned (.slice q l.length D) ∧ moE.At w' (fun k => F k ∨ (w.heap.size ≤ k ∧ k < w'.heap.size)) l (.slice q l.length D) ∧ Still w w'
theorem copied {p : Option Addr} {c : Nat} {xs : List Value} {g : Option Addr} {B : Nat} {R : Option Addr → Nat → World → Prop} (t2 : Owns w B ty_api_Memo 6 (.slice p l.length c) l.length xs) (t4 : moE.Cs w F l xs) {w1 : World} (s1 : Still w w1) (ho : Owns w1 w.heap.size ty_api_Memo 6 (.slice g 0 0) 0 []) (hl : l.length ≤ 100000)
    (h : ∀ q D w2, moE.At w2 (fun k => F k ∨ (w.heap.size ≤ k ∧ k < w2.heap.size)) l (.slice q l.length D) → Still w w2 → R q D w2) : appK w1 ty_api_Memo 6 104 g 0 0 p l.length R := by
  refine appK_push ho s1.size xs t4.len t4.one (At.own (t2.still s1)) (by omega) (by omega) fun q D w2 o2 m2 _ => ?_
  simp only [Nat.zero_add, List.nil_append] at o2
  have s2 := s1.own ho (Nat.le_refl _) m2
  exact h q D w2 (moAt_of o2 (t4.turn (fun _ h => h) fun a v _ hc => s2.cell hc)) s2
theorem cmemos_spec (h : Cj K w F tc gc rp rm j l) (hl : l.length ≤ 100000) : Calls Tryz.prog fn_cache_Cache_Memos #[.pointer (some ⟨gc, 0, none⟩)] w (MemosR F l w) := by
  obtain ⟨p, c, xs, t1, t2, t3, t4⟩ := h.top
  refine cache_Cache_Memos_calls _ _ _ ?_
  refine ⟨_, _, _, t1.lget rfl, ?_⟩
  have key : Calls Tryz.prog fn_slices_Clone_api_Memo_api_Memo #[.slice p l.length c] w (MemosR F l w) := by
    refine slices_Clone_api_Memo_api_Memo_calls _ _ _ _ _ ?_
    cases p with
    | none =>
      obtain ⟨_, ⟨hv, hn⟩ | ⟨g', cap, cur, hv, _⟩⟩ := t2
      · have hnil : l = [] := List.eq_nil_of_length_eq_zero hn
        rw [hnil]
        exact ⟨none, 0, rfl, Enc.At.nil _ _ _ _ _, Still.refl _⟩
      · cases hv
    | some a =>
      refine bsel_of (fun h => by cases h) (fun _ => allocK fun w1 r1 s1 z1 => ?_)
      have ho : Owns w1 w.heap.size ty_api_Memo 6 (.slice (some (Addr.mk w.heap.size 0 none)) 0 0) 0 [] := ⟨rfl, .inr ⟨_, 0, #[], rfl, Nat.le_refl _, r1, Nat.le_refl _, Nat.zero_le _, rfl, rfl⟩⟩
      refine copied t2 t4 s1 ho hl fun q D w2 h2 s2 => ?_
      rw [Nat.zero_add]
      exact ⟨q, D, rfl, h2, s2⟩
  refine key.mono ?_
  rintro _ w1 ⟨q, D, rfl, h1, h2⟩
  exact .inl ⟨_, _, _, rfl, q, D, rfl, h1, h2⟩
theorem rmemos_spec (h : Cj K w F tc gc rp rm j l) (hl : l.length ≤ 100000) : Calls Tryz.prog fn_ref22_Cache_Memos #[.pointer (some ⟨gc, 0, none⟩)] w (MemosR F l w) := by
  obtain ⟨p, c, xs, t1, t2, t3, t4⟩ := h.top
  refine ref22_Cache_Memos_calls _ _ _ ?_
  refine ⟨_, _, _, t1.lget rfl, copied t2 t4 (Still.refl w) (Owns.nil _ _ _ _) hl fun q D w2 h2 s2 => ?_⟩
  rw [Nat.zero_add]
  exact ⟨q, D, rfl, h2, s2⟩
end
structure Cs22 where
  j : Js
  l : List Mo
def addC : List Mo → Cs22 → Nat → Nat × Int × Cs22
  | [], c, n => (n, 0, c)
  | m :: r, c, n => if (c.j.append (menc m)).1 = 0 then addC r ⟨(c.j.append (menc m)).2, c.l ++ [m]⟩ (n + 1) else (n, (c.j.append (menc m)).1, ⟨(c.j.append (menc m)).2, c.l⟩)
structure Cs22.Ok (c : Cs22) : Prop where
  j : c.j.Ok
  n : c.l.length ≤ c.j.l.length
  m : ∀ x ∈ c.l, x.Ok
theorem append_l {j : Js} {t : Txt} (h : (j.append t).1 = 0) : (j.append t).2.l = j.l ++ [t] := by
  unfold Js.append at h ⊢
  split
  · rename_i h1
    rw [if_pos h1] at h
    cases h
  · rename_i h1
    rw [if_neg h1] at h
    split
    · rename_i h2
      rw [if_pos h2] at h
      cases h
    · rename_i h2
      rw [if_neg h2] at h
      split
      · rfl
      · rename_i h3
        rw [if_neg h3] at h
        exact absurd h h3
theorem append_l' {j : Js} {t : Txt} (h : (j.append t).1 ≠ 0) : (j.append t).2.l = j.l := by
  unfold Js.append at h ⊢
  split
  · rfl
  · rename_i h1
    rw [if_neg h1] at h
    split
    · rfl
    · rename_i h2
      rw [if_neg h2] at h
      split
      · rename_i h3
        rw [if_pos h3] at h
        exact absurd rfl h
      · rfl
theorem Cs22.Ok.add {c : Cs22} (h : c.Ok) {m : Mo} (hm : m.Ok) (h0 : (c.j.append (menc m)).1 = 0) : (⟨(c.j.append (menc m)).2, c.l ++ [m]⟩ : Cs22).Ok := by
  refine ⟨(Js.append_ok h.j _).1, ?_, fun x hx => ?_⟩
  · dsimp only
    rw [append_l h0]
    have := h.n
    simp only [List.length_append, List.length_cons, List.length_nil]
    omega
  · rcases List.mem_append.1 hx with hx | hx
    · exact h.m x hx
    · rw [List.mem_singleton.1 hx]; exact hm
theorem Cs22.Ok.torn {c : Cs22} (h : c.Ok) {t : Txt} (h0 : (c.j.append t).1 ≠ 0) : (⟨(c.j.append t).2, c.l⟩ : Cs22).Ok := by
  refine ⟨(Js.append_ok h.j _).1, ?_, h.m⟩
  dsimp only
  rw [append_l' h0]
  exact h.n
theorem addC_ok : ∀ (l : List Mo) {c : Cs22} (n : Nat), c.Ok → (∀ m ∈ l, m.Ok) → (addC l c n).2.2.Ok
  | [], c, n, h, _ => h
  | m :: r, c, n, h, hl => by
    simp only [addC]
    split
    · rename_i h0
      exact addC_ok r _ (h.add (hl m (List.mem_cons_self ..)) h0) fun x hx => hl x (List.mem_cons_of_mem _ hx)
    · rename_i h0
      exact h.torn h0
theorem recs_le22 {j : Js} (ok : j.Ok) : j.l.length ≤ 5000 := by have := ok.l; have := ok.k; have := ok.s.n2; omega
theorem Cs22.Ok.few {c : Cs22} (h : c.Ok) : c.l.length ≤ 5000 := by have := h.n; have := recs_le22 h.j; omega
section
variable {K : JK w0} {F : Nat → Prop} {tc gc : Nat} {rp rm : Option Nat}
def AddR (K : JK w0) (F : Nat → Prop) (tc gc : Nat) (rp rm : Option Nat) (x : Nat × Int × Cs22) (w : World) (e : Ending) (w' : World) : Prop :=
  e = .returned (.tuple #[.int .i64 (x.1 : Int), .int .i64 x.2.1]) ∧ ∃ rp' rm', Cj K w' F tc gc rp' rm' x.2.2.j x.2.2.l ∧ Mod (CF K gc rp rm) w w' ∧ NewOr rp rp' w ∧ NewOr rm rm' w
theorem NewOr.trans {a b c : Option Nat} {w w' : World} (h : NewOr a b w) (k : NewOr b c w') (hz : w.heap.size ≤ w'.heap.size) : NewOr a c w := fun n hn => by
  rcases k n hn with e | e
  · exact h n e
  · exact .inr (by omega)
theorem CF.trans {K : JK w0} {gc : Nat} {rp rm rp' rm' : Option Nat} {w w' w'' : World} (h : Mod (CF K gc rp rm) w w') (k : Mod (CF K gc rp' rm') w' w'') (h1 : NewOr rp rp' w) (h2 : NewOr rm rm' w) : Mod (CF K gc rp rm) w w'' :=
  Mod.trans h k (fun _ h => h) fun i hi hk => by
    rcases hk with hk | hk | hk
    · rcases hk with e | e | e | e
      · exact .inl (.inl e)
      · exact .inl (.inr (.inl e))
      · exact .inl (.inr (.inr (.inl e)))
      · rcases h1 i e with e | e
        · exact .inl (.inr (.inr (.inr e)))
        · omega
    · exact .inr (.inl hk)
    · rcases h2 i hk with e | e
      · exact .inr (.inr e)
      · omega
theorem cadd_spec {gj g b : Nat} {c : Cs22} (he : Env w0) (h0 : Still w0 w) (h : Cj (kJ w0 gj g b) w F ty_cache_Cache gc rp rm c.j c.l) (ok : c.Ok) {la : List Mo} {p : Option Addr} {n cp : Nat} {G : Nat → Prop} (ha : moE.At w G la (.slice p n cp)) (hG : ∀ k, G k → F k) (hf : ∀ m ∈ la, m.Few) (hn : la.length ≤ 1000) :
    Calls Tryz.prog fn_cache_Cache_Add #[.pointer (some ⟨gc, 0, none⟩), .slice p n cp] w (AddR (kJ w0 gj g b) F ty_cache_Cache gc rp rm (addC la c 0) w) := by
  refine cache_Cache_Add_calls _ _ _ _ _ _ ?_
  obtain ⟨e1, _⟩ := ha.len
  subst e1
  refine ⟨fun x w1 => ∃ (k : Nat) (c1 : Cs22) (rp1 rm1 : Option Nat), x = (k : Int) ∧ k ≤ la.length ∧ addC la c 0 = addC (la.drop k) c1 k ∧ c1.Ok ∧ Cj (kJ w0 gj g b) w1 F ty_cache_Cache gc rp1 rm1 c1.j c1.l ∧ Mod (CF (kJ w0 gj g b) gc rp rm) w w1 ∧ NewOr rp rp1 w ∧ NewOr rm rm1 w, fun x _ => la.length - x.toNat, ⟨0, c, rp, rm, rfl, Nat.zero_le _, rfl, ok, h, Mod.refl _ _, NewOr.refl _ _, NewOr.refl _ _⟩, ?_⟩
  rintro _ _ w1 ⟨k, c1, rp1, rm1, rfl, hk, hadd, ok1, h1, m1, n1, n2⟩
  have h01 := h.stays h0 m1
  have ha1 := ha.mod m1 fun k hk hc => (h.fl k (hG k hk)).2 hc
  refine bsel_of (fun hx => ?_) (fun hx => ?_)
  · have hx : k < la.length := by have := of_decide_eq_true hx; omega
    have hkm := getD_some hx
    obtain ⟨a, pr, cr, pw, cw, rfl, q1, q2, hc⟩ := moE_get ha1 hkm
    rw [List.drop_eq_getElem_cons hx] at hadd
    have hfm := hf _ (List.getElem_mem hx)
    generalize la[k] = m at *
    simp only [addC] at hadd
    have hc1 := hc
    refine ⟨by omega, by omega, m.k, pr, _, cr, pw, _, cw, m.st, m.o, m.e, by rw [Int.toNat_natCast]; exact hc1.1, by rw [Int.toNat_natCast]; exact hc1.2.1, by rw [Int.toNat_natCast]; exact hc1.2.2.1, by rw [Int.toNat_natCast]; exact hc1.2.2.2.1, by rw [Int.toNat_natCast]; exact hc1.2.2.2.2.1, by rw [Int.toNat_natCast]; exact hc1.2.2.2.2.2, boxK rfl (by simp [Value.oneCell']) fun w3 r3 s3 z3 => ?_⟩
    have sD := s3.toDrew
    have h3 := h1.still sD
    have r3D := r3.drew
    have h03 := h01.trans sD
    obtain ⟨pm, cm, xs, t1, t2, t3, t4⟩ := h3.top
    refine ⟨fun wq => Row wq gc ty_cache_Cache ⟨[.pointer (some ⟨gj, 0, none⟩), .slice pm c1.l.length cm]⟩ ∧ Row wq w1.heap.size ty_api_Memo ⟨moC m (.slice pr m.r.length cr) (.slice pw m.w.length cw)⟩, ⟨t1, r3D⟩, _, fun wq hq => hq.1.lget rfl, m.k, pr, _, cr, pw, _, cw, m.st, m.o, m.e, fun wq hq => hq.2.lget rfl, fun wq hq => hq.2.lget rfl, fun wq hq => hq.2.lget rfl, fun wq hq => hq.2.lget rfl, fun wq hq => hq.2.lget rfl, fun wq hq => hq.2.lget rfl, ?_⟩
    refine (mencode_spec (he.still h03) (q1.still sD) (q2.still sD) hfm).mono ?_
    rintro _ w4 ⟨rfl, s4⟩
    have h4 := h3.still s4
    have h04 := h03.trans s4
    refine .inl ⟨_, rfl, ⟨t1.still s4, r3D.still s4⟩, (jappend_spec he h04 h4.jr ok1.j (menc m)).mono ?_⟩
    rintro _ w5 ⟨rfl, rp2, J2, m2, nn2⟩
    have h5 := h4.step J2 m2 nn2
    have m14 : Mod (CF (kJ w0 gj g b) gc rp1 rm1) w1 w5 := Mod.trans (sD.trans s4) m2 (fun _ h => h.elim) (fun _ _ h => .inl h)
    have mAll := CF.trans m1 m14 n1 n2
    have z1 : w.heap.size ≤ w1.heap.size := m1.size
    have z4 : w1.heap.size ≤ w4.heap.size := (sD.trans s4).size
    have nn2' : NewOr rp rp2 w := NewOr.trans n1 nn2 (Nat.le_trans z1 z4)
    refine .inl ⟨_, rfl, bsel_of (fun he0 => ?_) (fun he0 => ?_)⟩
    · have he0 : ¬ (c1.j.append (menc m)).1 = 0 := by simpa using he0
      rw [if_neg he0] at hadd
      rw [hadd]
      exact ⟨rfl, rp2, rm1, h5, mAll, nn2', n2⟩
    · have he0 : (c1.j.append (menc m)).1 = 0 := by simpa using he0
      rw [if_pos he0] at hadd
      have h5D := h5.still (Still.refl w5).toDrew
      have h05 := (h4.stays h04 (m2.weaken fun _ h => .inl h)).toDrew
      have r5 := ((r3D.still s4).mod m2 (fun hf => by have := (h1.foot (.inl hf)).2; omega)).drew
      obtain ⟨pm2, cm2, xs2, u1, u2, u3, u4⟩ := h5D.top
      refine ⟨fun wq => Row wq gc ty_cache_Cache ⟨[.pointer (some ⟨gj, 0, none⟩), .slice pm2 c1.l.length cm2]⟩ ∧ Row wq w1.heap.size ty_api_Memo ⟨moC m (.slice pr m.r.length cr) (.slice pw m.w.length cw)⟩, ⟨u1, r5⟩, _, _, _, fun wq hq => hq.1.lget rfl, m.k, pr, _, cr, pw, _, cw, m.st, m.o, m.e, fun wq hq => hq.2.lget rfl, fun wq hq => hq.2.lget rfl, fun wq hq => hq.2.lget rfl, fun wq hq => hq.2.lget rfl, fun wq hq => hq.2.lget rfl, fun wq hq => hq.2.lget rfl, ?_⟩
      refine letIn ⟨⟨u1.still ((Mod.refl _ _).alloc _), r5.still ((Mod.refl _ _).alloc _)⟩, ?_⟩
      have hE : moE.E w5.drew F m (moC m (.slice pr m.r.length cr) (.slice pw m.w.length cw)) := ⟨_, _, rfl, ((q1.mod m14 fun k hk hc => (h1.fl k (hG k hk)).2 hc).still (Still.refl w5).toDrew).mono hG, ((q2.mod m14 fun k hk hc => (h1.fl k (hG k hk)).2 hc).still (Still.refl w5).toDrew).mono hG⟩
      have hp := h5D.push u1 u2 u3 u4 hE h05.size (by have := ok1.few; omega) (Kt := fun w8 => (∃ (k' : Nat) (c1 : Cs22) (rp1 rm1 : Option Nat), IntKind.i64.wrap ((k : Int) + 1) = (k' : Int) ∧ k' ≤ la.length ∧ addC la c 0 = addC (la.drop k') c1 k' ∧ c1.Ok ∧ Cj (kJ w0 gj g b) w8 F ty_cache_Cache gc rp1 rm1 c1.j c1.l ∧ Mod (CF (kJ w0 gj g b) gc rp rm) w w8 ∧ NewOr rp rp1 w ∧ NewOr rm rm1 w) ∧ la.length - (IntKind.i64.wrap ((k : Int) + 1)).toNat < la.length - (k : Int).toNat) fun w8 rm8 h8 m8 n8 => ?_
      · exact hp
      have m58 : Mod (CF (kJ w0 gj g b) gc rp2 rm1) w5 w8 := Mod.trans (Still.refl w5).toDrew m8 (fun _ h => h.elim) fun _ _ h => .inr h
      have mEnd := CF.trans mAll m58 nn2' n2
      rw [wrap_i64 (by omega) (by omega)]
      exact ⟨⟨k + 1, ⟨_, _⟩, rp2, rm8, by omega, hx, hadd, ok1.add hfm.ok he0, h8, mEnd, nn2', NewOr.trans n2 n8 (Nat.le_trans z1 (by have := m14.size; exact this))⟩, by omega⟩
  · have hx : k = la.length := by have := of_decide_eq_false hx; omega
    subst hx
    rw [List.drop_length] at hadd
    rw [hadd]
    exact ⟨rfl, rp1, rm1, h1, m1, n1, n2⟩
theorem radd_spec {hj h q : Nat} {c : Cs22} (h0 : Still w0 w) (hC : Cj (kR w0 hj h q) w F ty_scullionref22_Cache gc rp rm c.j c.l) (ok : c.Ok) {la : List Mo} {p : Option Addr} {n cp : Nat} {G : Nat → Prop} (ha : moE.At w G la (.slice p n cp)) (hG : ∀ k, G k → F k) (hf : ∀ m ∈ la, m.Few) (hn : la.length ≤ 1000) :
    Calls Tryz.prog fn_ref22_Cache_Add #[.pointer (some ⟨gc, 0, none⟩), .slice p n cp] w (AddR (kR w0 hj h q) F ty_scullionref22_Cache gc rp rm (addC la c 0) w) := by
  refine ref22_Cache_Add_calls _ _ _ _ _ _ ?_
  obtain ⟨e1, _⟩ := ha.len
  subst e1
  refine ⟨fun x w1 => ∃ (k : Nat) (c1 : Cs22) (rp1 rm1 : Option Nat), x = (k : Int) ∧ k ≤ la.length ∧ addC la c 0 = addC (la.drop k) c1 k ∧ c1.Ok ∧ Cj (kR w0 hj h q) w1 F ty_scullionref22_Cache gc rp1 rm1 c1.j c1.l ∧ Mod (CF (kR w0 hj h q) gc rp rm) w w1 ∧ NewOr rp rp1 w ∧ NewOr rm rm1 w, fun x _ => la.length - x.toNat, ⟨0, c, rp, rm, rfl, Nat.zero_le _, rfl, ok, hC, Mod.refl _ _, NewOr.refl _ _, NewOr.refl _ _⟩, ?_⟩
  rintro _ _ w1 ⟨k, c1, rp1, rm1, rfl, hk, hadd, ok1, h1, m1, n1, n2⟩
  have h01 := hC.stays h0 m1
  have ha1 := ha.mod m1 fun k hk hc => (hC.fl k (hG k hk)).2 hc
  refine bsel_of (fun hx => ?_) (fun hx => ?_)
  · have hx : k < la.length := by have := of_decide_eq_true hx; omega
    have hkm := getD_some hx
    obtain ⟨a, pr, cr, pw, cw, rfl, q1, q2, hc⟩ := moE_get ha1 hkm
    rw [List.drop_eq_getElem_cons hx] at hadd
    have hfm := hf _ (List.getElem_mem hx)
    generalize la[k] = m at *
    simp only [addC] at hadd
    have A : ∀ wq, Still w1 wq → MoAt wq (a.add (Int.toNat (k : Int) * 6)) m pr cr pw cw := fun wq hq => by rw [Int.toNat_natCast]; exact hc.still hq
    have sD := (Still.refl w1).toDrew
    have h3 := h1.still sD
    have h03 := h01.trans sD
    obtain ⟨pm, cm, xs, t1, t2, t3, t4⟩ := h3.top
    refine ⟨fun wq => Row wq gc ty_scullionref22_Cache ⟨[.pointer (some ⟨hj, 0, none⟩), .slice pm c1.l.length cm]⟩ ∧ Still w1 wq, ⟨t1, sD⟩, _, fun wq hq => hq.1.lget rfl, by omega, by omega, m.k, pr, _, cr, pw, _, cw, m.st, m.o, m.e, fun wq hq => (A wq hq.2).1, fun wq hq => (A wq hq.2).2.1, fun wq hq => (A wq hq.2).2.2.1, fun wq hq => (A wq hq.2).2.2.2.1, fun wq hq => (A wq hq.2).2.2.2.2.1, fun wq hq => (A wq hq.2).2.2.2.2.2, ?_⟩
    refine (rencode_spec (q1.still sD) (q2.still sD) hfm).mono ?_
    rintro _ w4 ⟨rfl, s4⟩
    have h4 := h3.still s4
    have h04 := h03.trans s4
    refine .inl ⟨_, rfl, ⟨t1.still s4, sD.trans s4⟩, (rappend_spec h04 h4.jr ok1.j (menc m)).mono ?_⟩
    rintro _ w5 ⟨rfl, rp2, J2, m2, nn2⟩
    have h5 := h4.step J2 m2 nn2
    have m14 : Mod (CF (kR w0 hj h q) gc rp1 rm1) w1 w5 := Mod.trans (sD.trans s4) m2 (fun _ h => h.elim) (fun _ _ h => .inl h)
    have mAll := CF.trans m1 m14 n1 n2
    have z1 : w.heap.size ≤ w1.heap.size := m1.size
    have z4 : w1.heap.size ≤ w4.heap.size := (sD.trans s4).size
    have nn2' : NewOr rp rp2 w := NewOr.trans n1 nn2 (Nat.le_trans z1 z4)
    refine .inl ⟨_, rfl, bsel_of (fun he0 => ?_) (fun he0 => ?_)⟩
    · have he0 : ¬ (c1.j.append (menc m)).1 = 0 := by simpa using he0
      rw [if_neg he0] at hadd
      rw [hadd]
      exact ⟨rfl, rp2, rm1, h5, mAll, nn2', n2⟩
    · have he0 : (c1.j.append (menc m)).1 = 0 := by simpa using he0
      rw [if_pos he0] at hadd
      have h5D := h5.still (Still.refl w5).toDrew
      have h05 := (h4.stays h04 (m2.weaken fun _ h => .inl h)).toDrew
      obtain ⟨pm2, cm2, xs2, u1, u2, u3, u4⟩ := h5D.top
      obtain ⟨a', pr', cr', pw', cw', ea, q3, q4, hc5⟩ := moE_get (ha.mod mAll fun k hk hc => (hC.fl k (hG k hk)).2 hc) hkm
      obtain rfl := Option.some.inj ea
      have s5D := (Still.refl w5).toDrew
      have A5 : ∀ wq, Still w5.drew wq → MoAt wq (a.add (Int.toNat (k : Int) * 6)) m pr' cr' pw' cw' := fun wq hq => by rw [Int.toNat_natCast]; exact hc5.still (s5D.trans hq)
      refine ⟨fun wq => Row wq gc ty_scullionref22_Cache ⟨[.pointer (some ⟨hj, 0, none⟩), .slice pm2 c1.l.length cm2]⟩ ∧ Still w5.drew wq, ⟨u1, Still.refl _⟩, _, _, _, fun wq hq => hq.1.lget rfl, by omega, by omega, m.k, pr', _, cr', pw', _, cw', m.st, m.o, m.e, fun wq hq => (A5 wq hq.2).1, fun wq hq => (A5 wq hq.2).2.1, fun wq hq => (A5 wq hq.2).2.2.1, fun wq hq => (A5 wq hq.2).2.2.2.1, fun wq hq => (A5 wq hq.2).2.2.2.2.1, fun wq hq => (A5 wq hq.2).2.2.2.2.2, ?_⟩
      refine letIn ⟨⟨u1.still ((Mod.refl _ _).alloc _), (Mod.refl _ _).alloc _⟩, ?_⟩
      have hE : moE.E w5.drew F m (moC m (.slice pr' m.r.length cr') (.slice pw' m.w.length cw')) := ⟨_, _, rfl, (q3.still s5D).mono hG, (q4.still s5D).mono hG⟩
      have hp := h5D.push u1 u2 u3 u4 hE h05.size (by have := ok1.few; omega) (Kt := fun w8 => (∃ (k' : Nat) (c1 : Cs22) (rp1 rm1 : Option Nat), IntKind.i64.wrap ((k : Int) + 1) = (k' : Int) ∧ k' ≤ la.length ∧ addC la c 0 = addC (la.drop k') c1 k' ∧ c1.Ok ∧ Cj (kR w0 hj h q) w8 F ty_scullionref22_Cache gc rp1 rm1 c1.j c1.l ∧ Mod (CF (kR w0 hj h q) gc rp rm) w w8 ∧ NewOr rp rp1 w ∧ NewOr rm rm1 w) ∧ la.length - (IntKind.i64.wrap ((k : Int) + 1)).toNat < la.length - (k : Int).toNat) fun w8 rm8 h8 m8 n8 => ?_
      · exact hp
      have m58 : Mod (CF (kR w0 hj h q) gc rp2 rm1) w5 w8 := Mod.trans (Still.refl w5).toDrew m8 (fun _ h => h.elim) fun _ _ h => .inr h
      have mEnd := CF.trans mAll m58 nn2' n2
      rw [wrap_i64 (by omega) (by omega)]
      exact ⟨⟨k + 1, ⟨_, _⟩, rp2, rm8, by omega, hx, hadd, ok1.add hfm.ok he0, h8, mEnd, nn2', NewOr.trans n2 n8 (Nat.le_trans z1 (by have := m14.size; exact this))⟩, by omega⟩
  · have hx : k = la.length := by have := of_decide_eq_false hx; omega
    subst hx
    rw [List.drop_length] at hadd
    rw [hadd]
    exact ⟨rfl, rp1, rm1, h1, m1, n1, n2⟩
end
theorem openF_len : ∀ (f : Nat) (s : St) (l : List Txt) (k : Nat), (∀ t ∈ l, t.length ≤ 100000) → ∀ t ∈ (openF f s l k).1, t.length ≤ 100000
  | 0, s, l, k, h => h
  | f + 1, s, l, k, h => by
    simp only [openF]
    split
    · exact h
    · rename_i t ht
      have := (readR_some ht).2
      refine openF_len f s _ _ fun x hx => ?_
      rcases List.mem_append.1 hx with hx | hx
      · exact h x hx
      · rw [List.mem_singleton.1 hx]; exact this
theorem opened_len (s : St) : ∀ t ∈ (Js.opened s).l, t.length ≤ 100000 := openF_len _ _ _ _ (fun t h => by cases h)
def openC (s : St) : Cs22 := ⟨Js.opened s, (Js.opened s).l.filterMap mdec⟩
theorem openC_ok {s : St} (h : s.Ok) : (openC s).Ok := by
  refine ⟨Js.opened_ok h, List.length_filterMap_le .., fun x hx => ?_⟩
  obtain ⟨t, ht, he⟩ := List.mem_filterMap.1 hx
  exact mdec_ok he (opened_len s t ht)
theorem fm_snoc {l : List Txt} {k : Nat} (hk : k < l.length) : (l.take (k + 1)).filterMap mdec = (l.take k).filterMap mdec ++ (match mdec l[k] with
    | some m => [m]
    | none => []) := by
  rw [take_snoc hk, List.filterMap_append]
  cases h : mdec l[k] <;> simp [h]
def OpenR (K : Nat → JK w0) (tc : TypeId) (s : St) (w : World) (e : Ending) (w' : World) : Prop := ∃ gj gc rp rm F, e = .returned (.pointer (some ⟨gc, 0, none⟩)) ∧ Still w w' ∧ w.heap.size ≤ gj ∧ w.heap.size ≤ gc ∧ NewOr none rp w ∧ NewOr none rm w ∧ (∀ k, F k → k < w0.heap.size ∨ w.heap.size ≤ k) ∧ Cj (K gj) w' F tc gc rp rm (openC s).j (openC s).l
set_option maxRecDepth 10000 in
theorem copen_spec {g b : Nat} {s : St} (he : Env w0) (h0 : Still w0 w) (d : Dev w g b s) (ok : s.Ok) (lg : w0.heap.size ≤ g) (lb : w0.heap.size ≤ b) :
    Calls Tryz.prog fn_cache_Open #[.pointer (some ⟨g, 0, none⟩)] w (OpenR (fun gj => kJ w0 gj g b) ty_cache_Cache s w) := by
  refine cache_Open_calls _ _ _ ?_
  refine (jopen_spec he h0 d ok lg lb).mono ?_
  rintro _ w1 ⟨gj, rp, rfl, s1, hgj, hrp, J1⟩
  have okj := Js.opened_ok ok
  have ef : (openC s).l = (Js.opened s).l.filterMap mdec := rfl
  have ej : (openC s).j = Js.opened s := rfl
  have hrl := opened_len s
  unfold OpenR
  rw [ef, ej]
  generalize Js.opened s = j at *
  have hl5 := recs_le22 okj
  refine .inl ⟨_, rfl, allocK fun w2 r2 s2 z2 => ⟨_, r2.lget rfl, (jrecords_spec (J1.still s2) hl5).mono ?_⟩⟩
  rintro _ w3 ⟨ql, D, rfl, o3, s3⟩
  have s02 := s1.trans s2
  have s03 := s02.trans s3
  have z1 := s1.size
  have z3 := s3.size
  have zw := h0.size
  have J3 := (J1.still s2).still s3
  have C3 : Cj (kJ w0 gj g b) w3 (fun k => k < w0.heap.size) ty_cache_Cache w1.heap.size rp none j ((j.l.take 0).filterMap mdec) := by
    refine ⟨J3, ⟨none, 0, [], r2.still s3, Owns.nil _ _ _ _, rfl, rfl⟩, .inl rfl, by omega, fun k h => h, fun k hk => ⟨by omega, ?_⟩⟩
    rintro (e | e | e)
    · have := (J3.foot e).1
      omega
    · omega
    · cases e
  refine .inl ⟨_, _, _, rfl, fun x w4 => ∃ (k : Nat) (rm : Option Nat) (F : Nat → Prop), x = (k : Int) ∧ k ≤ j.l.length ∧ Cj (kJ w0 gj g b) w4 F ty_cache_Cache w1.heap.size rp rm j ((j.l.take k).filterMap mdec) ∧ Still w w4 ∧ w3.heap.size ≤ w4.heap.size ∧ NewOr none rm w3 ∧ (∀ k, F k → k < w0.heap.size ∨ w.heap.size ≤ k) ∧ Owns w4 w2.heap.size ty_string 1 (.slice ql j.l.length D) j.l.length (strs j.l), fun x _ => j.l.length - x.toNat,
    ⟨0, none, _, rfl, Nat.zero_le _, C3, s03, Nat.le_refl _, NewOr.refl _ _, fun k h => .inl h, o3⟩, ?_⟩
  rintro _ _ w4 ⟨k, rm, F, rfl, hk, C4, s4, z4, n4, hF, o4⟩
  refine bsel_of (fun hx => ?_) (fun hx => ?_)
  · have hx : k < j.l.length := by have := of_decide_eq_true hx; omega
    obtain ⟨a, rfl, hc⟩ := (StrsAt.of o4).get hx
    have ht := hrl _ (List.getElem_mem hx)
    have hfm := fm_snoc hx
    generalize j.l[k] = t at *
    refine ⟨by omega, by omega, t, by rw [Int.toNat_natCast, Nat.mul_one]; exact hc, (mdecode_spec (he.still (h0.trans s4)) t ht).mono ?_⟩
    rintro _ w5 ⟨⟨key, pr, nr, cr, pw, nw, cw, st, o, er, kk, rfl, hD⟩, s5⟩
    refine .inl ⟨_, _, _, _, _, _, _, _, _, _, _, rfl, boxK rfl (by simp [Value.oneCell']) fun w7 r7 s7 z7 => ?_⟩
    have s57 := s5.trans s7
    have recB : ∀ i, (Value.slice (some a) j.l.length D).ownBlock = some i → w2.heap.size ≤ i ∧ i < w3.heap.size := o3.lt
    have next : ∀ {w8 : World} {rm8 : Option Nat} {F8 : Nat → Prop}, Cj (kJ w0 gj g b) w8 F8 ty_cache_Cache w1.heap.size rp rm8 j ((j.l.take (k + 1)).filterMap mdec) → Mod (CM w1.heap.size rm) w4 w8 → NewOr none rm8 w3 → (∀ k, F8 k → k < w0.heap.size ∨ w.heap.size ≤ k) →
        (∃ (k' : Nat) (rm : Option Nat) (F : Nat → Prop), IntKind.i64.wrap ((k : Int) + 1) = (k' : Int) ∧ k' ≤ j.l.length ∧ Cj (kJ w0 gj g b) w8 F ty_cache_Cache w1.heap.size rp rm j ((j.l.take k').filterMap mdec) ∧ Still w w8 ∧ w3.heap.size ≤ w8.heap.size ∧ NewOr none rm w3 ∧ (∀ k, F k → k < w0.heap.size ∨ w.heap.size ≤ k) ∧ Owns w8 w2.heap.size ty_string 1 (.slice (some a) j.l.length D) j.l.length (strs j.l)) ∧ j.l.length - (IntKind.i64.wrap ((k : Int) + 1)).toNat < j.l.length - (k : Int).toNat := by
      intro w8 rm8 F8 C8 m8 n8 hF8
      rw [wrap_i64 (by omega) (by omega)]
      refine ⟨⟨k + 1, rm8, F8, by omega, hx, C8, Mod.trans s4 m8 (fun _ h => h) (fun i hi e => ?_), Nat.le_trans z4 m8.size, n8, hF8, o4.mod m8 fun i hi e => ?_⟩, by omega⟩
      · rcases e with e | e
        · omega
        · rcases n4 i e with e | e
          · cases e
          · omega
      · have := recB i hi
        rcases e with e | e
        · omega
        · rcases n4 i e with e | e
          · cases e
          · omega
    unfold DcAs at hD
    cases em : mdec t with
    | none =>
      rw [em] at hD hfm
      dsimp only at hfm
      rw [List.append_nil] at hfm
      have C7 := C4.still s57
      rw [← hfm] at C7
      exact bsel_of (fun h => absurd (of_decide_eq_true h) hD) (fun _ => next C7 (s57.weaken fun _ h => h.elim) n4 hF)
    | some m =>
      rw [em] at hD hfm
      obtain ⟨rfl, hE⟩ := hD
      dsimp only at hfm
      refine bsel_of (fun _ => ?_) (fun h => absurd rfl (of_decide_eq_false h))
      have sD := s57.toDrew
      have z5 := s5.size
      have zD := sD.size
      have z57 := s7.toDrew.size
      have C7 := (C4.still sD).widen (G := fun k => F k ∨ (w4.heap.size ≤ k ∧ k < w5.heap.size)) (fun k h => .inl h) fun k h => by
        rcases h with h | h
        · exact ⟨by have := (C4.fl k h).1; omega, (C4.fl k h).2⟩
        · exact ⟨by omega, fun hc => by have := (C4.foot hc).2; omega⟩
      have hE7 : moE.E w7.drew (fun k => F k ∨ (w4.heap.size ≤ k ∧ k < w5.heap.size)) m (moRaw key pr nr cr pw nw cw st o er) := moE.turn (fun k hk => .inr hk) (fun a v _ hc => s7.toDrew.cell hc) hE
      have r7D := r7.drew
      obtain ⟨pm, cm, xs, t1, t2, t3, t4⟩ := C7.top
      refine ⟨fun wq => Row wq w1.heap.size ty_cache_Cache ⟨[.pointer (some ⟨gj, 0, none⟩), .slice pm ((j.l.take k).filterMap mdec).length cm]⟩ ∧ Row wq w5.heap.size ty_api_Memo ⟨moRaw key pr nr cr pw nw cw st o er⟩, ⟨t1, r7D⟩, _, _, _, fun wq hq => hq.1.lget rfl, key, pr, _, cr, pw, _, cw, st, o, er, fun wq hq => hq.2.lget rfl, fun wq hq => hq.2.lget rfl, fun wq hq => hq.2.lget rfl, fun wq hq => hq.2.lget rfl, fun wq hq => hq.2.lget rfl, fun wq hq => hq.2.lget rfl, ?_⟩
      refine letIn ⟨⟨t1.still ((Mod.refl _ _).alloc _), r7D.still ((Mod.refl _ _).alloc _)⟩, ?_⟩
      have hlen : ((j.l.take k).filterMap mdec).length ≤ 100000 := by
        have h1 : ((j.l.take k).filterMap mdec).length ≤ (j.l.take k).length := List.length_filterMap_le ..
        rw [List.length_take] at h1
        omega
      have hp := C7.push t1 t2 t3 t4 hE7 (by have := sD.size; omega) hlen (Kt := fun w8 => (∃ (k' : Nat) (rm : Option Nat) (F : Nat → Prop), IntKind.i64.wrap ((k : Int) + 1) = (k' : Int) ∧ k' ≤ j.l.length ∧ Cj (kJ w0 gj g b) w8 F ty_cache_Cache w1.heap.size rp rm j ((j.l.take k').filterMap mdec) ∧ Still w w8 ∧ w3.heap.size ≤ w8.heap.size ∧ NewOr none rm w3 ∧ (∀ k, F k → k < w0.heap.size ∨ w.heap.size ≤ k) ∧ Owns w8 w2.heap.size ty_string 1 (.slice (some a) j.l.length D) j.l.length (strs j.l)) ∧ j.l.length - (IntKind.i64.wrap ((k : Int) + 1)).toNat < j.l.length - (k : Int).toNat) fun w8 rm8 C8 m8 n8 => ?_
      · exact hp
      rw [← hfm] at C8
      refine next C8 (Mod.trans sD m8 (fun _ h => h.elim) fun _ _ h => h) (NewOr.trans n4 n8 (by have := sD.size; omega)) fun k hk => ?_
      rcases hk with hk | hk
      · exact hF k hk
      · exact .inr (by have := s4.size; omega)
  · have hx : k = j.l.length := by have := of_decide_eq_false hx; omega
    subst hx
    rw [List.take_length] at C4
    exact ⟨gj, w1.heap.size, rp, rm, F, rfl, s4, hgj, z1, hrp, fun i hi => (n4 i hi).imp id fun e => Nat.le_trans s03.size e, hF, C4⟩
set_option maxRecDepth 10000 in
theorem rcopen_spec {h q : Nat} {s : St} (h0 : Still w0 w) (d : Ref w h q s) (ok : s.Ok) (lg : w0.heap.size ≤ h) (lb : w0.heap.size ≤ q) :
    Calls Tryz.prog fn_ref22_Open #[.pointer (some ⟨h, 0, none⟩)] w (OpenR (fun gj => kR w0 gj h q) ty_scullionref22_Cache s w) := by
  refine ref22_Open_calls _ _ _ ?_
  refine (ropen_spec h0 d ok lg lb).mono ?_
  rintro _ w1 ⟨gj, rp, rfl, s1, hgj, hrp, J1⟩
  have okj := Js.opened_ok ok
  have ef : (openC s).l = (Js.opened s).l.filterMap mdec := rfl
  have ej : (openC s).j = Js.opened s := rfl
  have hrl := opened_len s
  unfold OpenR
  rw [ef, ej]
  generalize Js.opened s = j at *
  have hl5 := recs_le22 okj
  refine .inl ⟨_, rfl, allocK fun w2 r2 s2 z2 => ⟨_, r2.lget rfl, (rrecords_spec (J1.still s2) hl5).mono ?_⟩⟩
  rintro _ w3 ⟨ql, D, rfl, o3, s3⟩
  have s02 := s1.trans s2
  have s03 := s02.trans s3
  have z1 := s1.size
  have z3 := s3.size
  have zw := h0.size
  have J3 := (J1.still s2).still s3
  have C3 : Cj (kR w0 gj h q) w3 (fun k => k < w0.heap.size) ty_scullionref22_Cache w1.heap.size rp none j ((j.l.take 0).filterMap mdec) := by
    refine ⟨J3, ⟨none, 0, [], r2.still s3, Owns.nil _ _ _ _, rfl, rfl⟩, .inr rfl, by omega, fun k h => h, fun k hk => ⟨by omega, ?_⟩⟩
    rintro (e | e | e)
    · have := (J3.foot e).1
      omega
    · omega
    · cases e
  refine .inl ⟨_, _, _, rfl, fun x w4 => ∃ (k : Nat) (rm : Option Nat) (F : Nat → Prop), x = (k : Int) ∧ k ≤ j.l.length ∧ Cj (kR w0 gj h q) w4 F ty_scullionref22_Cache w1.heap.size rp rm j ((j.l.take k).filterMap mdec) ∧ Still w w4 ∧ w3.heap.size ≤ w4.heap.size ∧ NewOr none rm w3 ∧ (∀ k, F k → k < w0.heap.size ∨ w.heap.size ≤ k) ∧ Owns w4 w2.heap.size ty_string 1 (.slice ql j.l.length D) j.l.length (strs j.l), fun x _ => j.l.length - x.toNat,
    ⟨0, none, _, rfl, Nat.zero_le _, C3, s03, Nat.le_refl _, NewOr.refl _ _, fun k h => .inl h, o3⟩, ?_⟩
  rintro _ _ w4 ⟨k, rm, F, rfl, hk, C4, s4, z4, n4, hF, o4⟩
  refine bsel_of (fun hx => ?_) (fun hx => ?_)
  · have hx : k < j.l.length := by have := of_decide_eq_true hx; omega
    obtain ⟨a, rfl, hc⟩ := (StrsAt.of o4).get hx
    have ht := hrl _ (List.getElem_mem hx)
    have hfm := fm_snoc hx
    generalize j.l[k] = t at *
    refine ⟨by omega, by omega, t, by rw [Int.toNat_natCast, Nat.mul_one]; exact hc, (rdecode19_spec t ht).mono ?_⟩
    rintro _ w5 ⟨⟨key, pr, nr, cr, pw, nw, cw, st, o, er, kk, rfl, hD⟩, s5⟩
    refine .inl ⟨_, _, _, _, _, _, _, _, _, _, _, rfl, boxK rfl (by simp [Value.oneCell']) fun w7 r7 s7 z7 => ?_⟩
    have s57 := s5.trans s7
    have recB : ∀ i, (Value.slice (some a) j.l.length D).ownBlock = some i → w2.heap.size ≤ i ∧ i < w3.heap.size := o3.lt
    have next : ∀ {w8 : World} {rm8 : Option Nat} {F8 : Nat → Prop}, Cj (kR w0 gj h q) w8 F8 ty_scullionref22_Cache w1.heap.size rp rm8 j ((j.l.take (k + 1)).filterMap mdec) → Mod (CM w1.heap.size rm) w4 w8 → NewOr none rm8 w3 → (∀ k, F8 k → k < w0.heap.size ∨ w.heap.size ≤ k) →
        (∃ (k' : Nat) (rm : Option Nat) (F : Nat → Prop), IntKind.i64.wrap ((k : Int) + 1) = (k' : Int) ∧ k' ≤ j.l.length ∧ Cj (kR w0 gj h q) w8 F ty_scullionref22_Cache w1.heap.size rp rm j ((j.l.take k').filterMap mdec) ∧ Still w w8 ∧ w3.heap.size ≤ w8.heap.size ∧ NewOr none rm w3 ∧ (∀ k, F k → k < w0.heap.size ∨ w.heap.size ≤ k) ∧ Owns w8 w2.heap.size ty_string 1 (.slice (some a) j.l.length D) j.l.length (strs j.l)) ∧ j.l.length - (IntKind.i64.wrap ((k : Int) + 1)).toNat < j.l.length - (k : Int).toNat := by
      intro w8 rm8 F8 C8 m8 n8 hF8
      rw [wrap_i64 (by omega) (by omega)]
      refine ⟨⟨k + 1, rm8, F8, by omega, hx, C8, Mod.trans s4 m8 (fun _ h => h) (fun i hi e => ?_), Nat.le_trans z4 m8.size, n8, hF8, o4.mod m8 fun i hi e => ?_⟩, by omega⟩
      · rcases e with e | e
        · omega
        · rcases n4 i e with e | e
          · cases e
          · omega
      · have := recB i hi
        rcases e with e | e
        · omega
        · rcases n4 i e with e | e
          · cases e
          · omega
    unfold DcAs at hD
    cases em : mdec t with
    | none =>
      rw [em] at hD hfm
      dsimp only at hfm
      rw [List.append_nil] at hfm
      have C7 := C4.still s57
      rw [← hfm] at C7
      exact bsel_of (fun h => absurd (of_decide_eq_true h) hD) (fun _ => next C7 (s57.weaken fun _ h => h.elim) n4 hF)
    | some m =>
      rw [em] at hD hfm
      obtain ⟨rfl, hE⟩ := hD
      dsimp only at hfm
      refine bsel_of (fun _ => ?_) (fun h => absurd rfl (of_decide_eq_false h))
      have sD := s57.toDrew
      have z5 := s5.size
      have zD := sD.size
      have z57 := s7.toDrew.size
      have C7 := (C4.still sD).widen (G := fun k => F k ∨ (w4.heap.size ≤ k ∧ k < w5.heap.size)) (fun k h => .inl h) fun k h => by
        rcases h with h | h
        · exact ⟨by have := (C4.fl k h).1; omega, (C4.fl k h).2⟩
        · exact ⟨by omega, fun hc => by have := (C4.foot hc).2; omega⟩
      have hE7 : moE.E w7.drew (fun k => F k ∨ (w4.heap.size ≤ k ∧ k < w5.heap.size)) m (moRaw key pr nr cr pw nw cw st o er) := moE.turn (fun k hk => .inr hk) (fun a v _ hc => s7.toDrew.cell hc) hE
      have r7D := r7.drew
      obtain ⟨pm, cm, xs, t1, t2, t3, t4⟩ := C7.top
      refine ⟨fun wq => Row wq w1.heap.size ty_scullionref22_Cache ⟨[.pointer (some ⟨gj, 0, none⟩), .slice pm ((j.l.take k).filterMap mdec).length cm]⟩ ∧ Row wq w5.heap.size ty_api_Memo ⟨moRaw key pr nr cr pw nw cw st o er⟩, ⟨t1, r7D⟩, _, _, _, fun wq hq => hq.1.lget rfl, key, pr, _, cr, pw, _, cw, st, o, er, fun wq hq => hq.2.lget rfl, fun wq hq => hq.2.lget rfl, fun wq hq => hq.2.lget rfl, fun wq hq => hq.2.lget rfl, fun wq hq => hq.2.lget rfl, fun wq hq => hq.2.lget rfl, ?_⟩
      refine letIn ⟨⟨t1.still ((Mod.refl _ _).alloc _), r7D.still ((Mod.refl _ _).alloc _)⟩, ?_⟩
      have hlen : ((j.l.take k).filterMap mdec).length ≤ 100000 := by
        have h1 : ((j.l.take k).filterMap mdec).length ≤ (j.l.take k).length := List.length_filterMap_le ..
        rw [List.length_take] at h1
        omega
      have hp := C7.push t1 t2 t3 t4 hE7 (by have := sD.size; omega) hlen (Kt := fun w8 => (∃ (k' : Nat) (rm : Option Nat) (F : Nat → Prop), IntKind.i64.wrap ((k : Int) + 1) = (k' : Int) ∧ k' ≤ j.l.length ∧ Cj (kR w0 gj h q) w8 F ty_scullionref22_Cache w1.heap.size rp rm j ((j.l.take k').filterMap mdec) ∧ Still w w8 ∧ w3.heap.size ≤ w8.heap.size ∧ NewOr none rm w3 ∧ (∀ k, F k → k < w0.heap.size ∨ w.heap.size ≤ k) ∧ Owns w8 w2.heap.size ty_string 1 (.slice (some a) j.l.length D) j.l.length (strs j.l)) ∧ j.l.length - (IntKind.i64.wrap ((k : Int) + 1)).toNat < j.l.length - (k : Int).toNat) fun w8 rm8 C8 m8 n8 => ?_
      · exact hp
      rw [← hfm] at C8
      refine next C8 (Mod.trans sD m8 (fun _ h => h.elim) fun _ _ h => h) (NewOr.trans n4 n8 (by have := sD.size; omega)) fun k hk => ?_
      rcases hk with hk | hk
      · exact hF k hk
      · exact .inr (by have := s4.size; omega)
  · have hx : k = j.l.length := by have := of_decide_eq_false hx; omega
    subst hx
    rw [List.take_length] at C4
    exact ⟨gj, w1.heap.size, rp, rm, F, rfl, s4, hgj, z1, hrp, fun i hi => (n4 i hi).imp id fun e => Nat.le_trans s03.size e, hF, C4⟩
end Go.Proofs.YtkdlmkbpfdogcaaGreatDoor
namespace Go.Proofs.YtkdlmkbpfdogcaaGreatDoor
open Go.RowKit Vc
def Ch (s : St) : Nat → Nat → List Txt → Nat → Prop
  | i, _, [], k => i = k
  | i, n, t :: l, k => readR s i n = some t ∧ Ch s (i + 1 + cnt t.length) (n + 1) l k
def Stop (s : St) (k : Nat) : Prop := s.n ≤ k ∨ s.F (k * 64) ≠ 49
theorem Ch.le {s : St} : ∀ {l : List Txt} {i n k : Nat}, Ch s i n l k → i + l.length ≤ k
  | [], i, n, k, h => by
    have : i = k := h
    simp only [List.length_nil]
    omega
  | t :: l, i, n, k, h => by
    have := Ch.le h.2
    simp only [List.length_cons]
    omega
theorem openF_ch {s : St} : ∀ {l : List Txt} {f i : Nat} {l0 : List Txt} {k : Nat}, Ch s i l0.length l k → readR s k (l0.length + l.length) = none → l.length < f → openF f s l0 i = (l0 ++ l, k)
  | [], f, i, l0, k, h, hz, hf => by
    obtain rfl : i = k := h
    cases f with
    | zero => simp at hf
    | succ f =>
      simp only [openF]
      rw [show readR s i l0.length = none from hz]
      simp
  | t :: l, f, i, l0, k, h, hz, hf => by
    cases f with
    | zero => simp at hf
    | succ f =>
      simp only [openF]
      rw [h.1]
      have hl : (l0 ++ [t]).length = l0.length + 1 := by simp
      have h2 := openF_ch (l := l) (f := f) (i := i + 1 + cnt t.length) (l0 := l0 ++ [t]) (k := k) (by rw [hl]; exact h.2) (by rw [hl, show l0.length + 1 + l.length = l0.length + (t :: l).length by simp only [List.length_cons]; omega]; exact hz) (by simp only [List.length_cons] at hf; omega)
      dsimp only
      rw [h2, List.append_assoc]
      rfl
theorem opened_ch {s : St} {l : List Txt} {k : Nat} (h : Ch s 0 0 l k) (hz : readR s k l.length = none) (hk : k ≤ s.n) : Js.opened s = ⟨s, l, k⟩ := by
  have hle := h.le
  have e : openR s = (l, k) := by
    have := openF_ch (l0 := []) (f := s.n + 1) h (by rw [show ([] : List Txt).length + l.length = l.length by simp]; exact hz) (by omega)
    simpa [openR] using this
  unfold Js.opened
  rw [e]
theorem readR_far {s s' : St} (hn : s'.n = s.n) {i n : Nat} {t : Txt} (h : readR s i n = some t) (hF : ∀ j, j < (i + 1 + cnt t.length) * 64 → s'.F j = s.F j) : readR s' i n = some t := by
  have h1 := readR_some h
  have hs : sec s' i = sec s i := by
    unfold sec
    rw [hn, if_pos (by omega), if_pos (by omega)]
    exact rowF_congr fun j hj => hF _ (by omega)
  unfold readR at h ⊢
  rw [hs, hn]
  cases hk : sizeR (sec s i) with
  | none => rw [hk] at h; cases h
  | some k =>
    rw [hk] at h
    dsimp only at h ⊢
    split at h
    · cases h
    · rename_i h2
      rw [if_neg h2]
      split at h
      · rename_i h3
        obtain rfl := Option.some.inj h
        rw [rowF_length] at hF
        have e : rowF s'.F ((i + 1) * 64) k = rowF s.F ((i + 1) * 64) k := rowF_congr fun j hj => hF _ (by unfold cnt; omega)
        rw [e, if_pos h3]
      · cases h
theorem Ch.far {s s' : St} (hn : s'.n = s.n) : ∀ {l : List Txt} {i n k : Nat}, Ch s i n l k → (∀ j, j < k * 64 → s'.F j = s.F j) → Ch s' i n l k
  | [], _, _, _, h, _ => h
  | t :: l, i, n, k, h, hF => ⟨readR_far hn h.1 fun j hj => hF j (by have := Ch.le h.2; omega), Ch.far hn h.2 hF⟩
theorem Ch.more {s : St} {t : Txt} : ∀ {l : List Txt} {i n k : Nat}, Ch s i n l k → readR s k (n + l.length) = some t → Ch s i n (l ++ [t]) (k + 1 + cnt t.length)
  | [], i, n, k, h, ht => by
    obtain rfl : i = k := h
    exact ⟨ht, rfl⟩
  | x :: l, i, n, k, h, ht => ⟨h.1, Ch.more h.2 (by rw [show n + 1 + l.length = n + (x :: l).length by simp only [List.length_cons]; omega]; exact ht)⟩
theorem readR_none {s : St} {k n : Nat} (h : (sec s k).head? ≠ some 49) : readR s k n = none := by
  have e : sizeR (sec s k) = none := by
    unfold sizeR
    split
    · rfl
    · rename_i m r hm
      split
      · rename_i e
        obtain ⟨z, hz⟩ := trimZ_form (sec s k)
        rw [hm, e] at hz
        exact absurd (by rw [hz]; rfl) h
      · rfl
  unfold readR
  rw [e]
theorem Stop.none {s : St} {k : Nat} (h : Stop s k) (n : Nat) : readR s k n = none := by
  apply readR_none
  unfold sec
  split
  · rcases h with h | h
    · omega
    · rw [List.head?_eq_getElem?, rowF_get (by decide)]
      simpa using h
  · simp
theorem readR_good {s : St} {k n : Nat} {t : Txt} (hn : n ≤ 5000) (ht : t.length ≤ 100000) (hk : k + cnt t.length < s.n) (h1 : rowF s.F (k * 64) 64 = pad (hd 49 n t)) (h2 : rowF s.F ((k + 1) * 64) t.length = t) : readR s k n = some t := by
  have e1 : sec s k = pad (hd 49 n t) := by unfold sec; rw [if_pos (by omega), h1]
  have e2 : trimZ (sec s k) = hd 49 n t := by rw [e1]; exact trimZ_zeros hd_last _
  have e3 : sizeR (sec s k) = some t.length := by
    unfold sizeR
    rw [e2]
    show (if (49 : UInt8) = 49 then sizeD (decode (encode [dec n, dec t.length, (sha t).take 16])) else none) = _
    rw [if_pos rfl, decode_encode (few_nine (by have := hd_total n t hn ht; omega))]
    show sizeN (numR (dec t.length)) = _
    rw [numR_dec (dec_len9 (by omega))]
    show (if t.length ≤ 100000 then some t.length else none) = _
    rw [if_pos ht]
  unfold readR
  rw [e3]
  dsimp only
  rw [if_neg (by omega), h2, e2, if_pos rfl]
def InR (n : Nat) (ws : List (Nat × Txt)) : Prop := ∀ p ∈ ws, p.1 < n ∧ p.2.length ≤ 64
theorem InR.tail {n : Nat} {p : Nat × Txt} {ws : List (Nat × Txt)} (h : InR n (p :: ws)) : InR n ws := fun q hq => h q (List.mem_cons_of_mem _ hq)
theorem write_any {s : St} {k : Nat} {x : Txt} (hk : k < s.n) (hx : x.length ≤ 64) : (s.write (k : Int) x).2.n = s.n ∧
    ∀ j, (s.write (k : Int) x).2.F j = s.F j ∨ (k * 64 ≤ j ∧ j < k * 64 + 64 ∧ (s.write (k : Int) x).2.F j = x.getD (j - k * 64) 0) := by
  have put : ∀ j, (s.put k fun j => x.getD j 0).F j = s.F j ∨ (k * 64 ≤ j ∧ j < k * 64 + 64 ∧ (s.put k fun j => x.getD j 0).F j = x.getD (j - k * 64) 0) := by
    intro j
    simp only [St.put]
    by_cases h : k * 64 ≤ j ∧ j < k * 64 + 64
    · rw [if_pos h]; exact .inr ⟨h.1, h.2, rfl⟩
    · rw [if_neg h]; exact .inl rfl
  unfold St.write
  rw [if_pos ⟨by omega, by omega, hx⟩, Int.toNat_natCast]
  split
  · exact ⟨rfl, put⟩
  · split
    · exact ⟨rfl, put⟩
    · refine ⟨rfl, fun j => ?_⟩
      simp only [tornF]
      by_cases h : k * 64 ≤ j ∧ j < k * 64 + 64 ∧ bit s.m (j - k * 64) = true
      · rw [if_pos h]; exact .inr ⟨h.1, h.2.1, rfl⟩
      · rw [if_neg h]; exact .inl rfl
theorem write_got {s : St} {k : Nat} {x : Txt} (hk : k < s.n) (hx : x.length ≤ 64) (h : (s.write (k : Int) x).1 = 0) : ∀ c, rowF (s.write (k : Int) x).2.F (c * 64) 64 = if k = c then pad x else rowF s.F (c * 64) 64 := by
  have put : ∀ c, rowF (s.put k fun j => x.getD j 0).F (c * 64) 64 = if k = c then pad x else rowF s.F (c * 64) 64 := by
    intro c
    by_cases e : k = c
    · subst e
      rw [if_pos rfl, rowF_put_here, rowF_pad x hx]
    · rw [if_neg e, rowF_put_far s (Ne.symm e)]
  unfold St.write at h ⊢
  rw [if_pos ⟨by omega, by omega, hx⟩, Int.toNat_natCast] at h ⊢
  by_cases he : s.e = true
  · rw [if_pos he]; exact put
  · rw [if_neg he] at h ⊢
    by_cases hp : 0 < s.p
    · rw [if_pos hp]; exact put
    · rw [if_neg hp] at h; exact absurd h (show ¬ (13 : Int) = 0 by decide)
theorem runW_any : ∀ (ws : List (Nat × Txt)) {s : St}, InR s.n ws → (runW s ws).2.n = s.n ∧
    ∀ j, (runW s ws).2.F j = s.F j ∨ ∃ p ∈ ws, p.1 * 64 ≤ j ∧ j < p.1 * 64 + 64 ∧ (runW s ws).2.F j = p.2.getD (j - p.1 * 64) 0
  | [], s, _ => ⟨rfl, fun j => .inl rfl⟩
  | (k, x) :: ws, s, h => by
    obtain ⟨h1, h2⟩ := write_any (h _ (List.mem_cons_self ..)).1 (h _ (List.mem_cons_self ..)).2
    simp only [runW]
    split
    · obtain ⟨h3, h4⟩ := runW_any ws (s := (s.write (k : Int) x).2) (by rw [h1]; exact h.tail)
      refine ⟨h3.trans h1, fun j => ?_⟩
      rcases h4 j with h4 | ⟨p, hp, h5, h6, h7⟩
      · rcases h2 j with h2 | ⟨h5, h6, h7⟩
        · exact .inl (h4.trans h2)
        · exact .inr ⟨_, List.mem_cons_self .., h5, h6, h4.trans h7⟩
      · exact .inr ⟨p, List.mem_cons_of_mem _ hp, h5, h6, h7⟩
    · refine ⟨h1, fun j => ?_⟩
      rcases h2 j with h2 | ⟨h5, h6, h7⟩
      · exact .inl h2
      · exact .inr ⟨_, List.mem_cons_self .., h5, h6, h7⟩
def lastW (ws : List (Nat × Txt)) (c : Nat) (o : Txt) : Txt := ws.foldl (fun o p => if p.1 = c then pad p.2 else o) o
theorem runW_got : ∀ (ws : List (Nat × Txt)) {s : St}, InR s.n ws → (runW s ws).1 = 0 → ∀ c, rowF (runW s ws).2.F (c * 64) 64 = lastW ws c (rowF s.F (c * 64) 64)
  | [], s, _, _, c => rfl
  | (k, x) :: ws, s, h, h0, c => by
    obtain ⟨hk, hx⟩ := h _ (List.mem_cons_self ..)
    simp only [runW] at h0 ⊢
    by_cases e : (s.write (k : Int) x).1 = 0
    · rw [if_pos e] at h0 ⊢
      have h1 := (write_any hk hx).1
      rw [runW_got ws (by rw [h1]; exact h.tail) h0 c, write_got hk hx e c]
      rfl
    · rw [if_neg e] at h0
      exact absurd h0 e
theorem runW_app : ∀ (a b : List (Nat × Txt)) (s : St), runW s (a ++ b) = if (runW s a).1 = 0 then runW (runW s a).2 b else runW s a
  | [], b, s => by simp [runW]
  | (k, x) :: a, b, s => by
    by_cases e : (s.write (k : Int) x).1 = 0
    · have e1 : ∀ c, runW s ((k, x) :: c) = runW (s.write (k : Int) x).2 c := fun c => by simp only [runW]; rw [if_pos e]
      rw [List.cons_append, e1, e1]
      exact runW_app a b _
    · have e1 : ∀ c, runW s ((k, x) :: c) = s.write (k : Int) x := fun c => by simp only [runW]; rw [if_neg e]
      rw [List.cons_append, e1, e1, if_neg e]
theorem runW_endless : ∀ (ws : List (Nat × Txt)) {s : St}, InR s.n ws → s.e = true → (runW s ws).1 = 0 ∧ (runW s ws).2.e = true
  | [], s, _, he => ⟨rfl, he⟩
  | (k, x) :: ws, s, h, he => by
    obtain ⟨hk, hx⟩ := h _ (List.mem_cons_self ..)
    have e := write_endless he hk hx
    simp only [runW]
    rw [e]
    simp only [if_true]
    exact runW_endless ws (s := s.put k fun i => x.getD i 0) h.tail he
theorem lastW_app (a b : List (Nat × Txt)) (c : Nat) (o : Txt) : lastW (a ++ b) c o = lastW b c (lastW a c o) := List.foldl_append ..
theorem lastW_far : ∀ {ws : List (Nat × Txt)} {c : Nat} (o : Txt), (∀ p ∈ ws, p.1 ≠ c) → lastW ws c o = o
  | [], _, _, _ => rfl
  | p :: ws, c, o, h => by
    show lastW ws c (if p.1 = c then pad p.2 else o) = o
    rw [if_neg (h p (List.mem_cons_self ..))]
    exact lastW_far o fun q hq => h q (List.mem_cons_of_mem _ hq)
theorem lastW_one (k : Nat) (x o : Txt) : lastW [(k, x)] k o = pad x := by
  show (if k = k then pad x else o) = pad x
  rw [if_pos rfl]
theorem lastW_range (k : Nat) (g : Nat → Txt) (o : Txt) : ∀ {m i : Nat}, i < m → lastW ((List.range m).map fun i => (k + i, g i)) (k + i) o = pad (g i)
  | 0, i, h => by omega
  | m + 1, i, h => by
    rw [List.range_succ, List.map_append, lastW_app]
    by_cases e : i = m
    · subst e
      exact lastW_one _ _ _
    · rw [lastW_range k g o (m := m) (by omega)]
      exact lastW_far _ fun p hp => by
        simp only [List.map_cons, List.map_nil, List.mem_singleton] at hp
        rw [hp]
        dsimp only
        omega
def wrs0 (s : St) (k n : Nat) (t : Txt) : List (Nat × Txt) := (if k + 1 + cnt t.length < s.n then [(k + 1 + cnt t.length, [])] else []) ++ ((k, hd 48 n t) :: chunks (k + 1) t)
theorem wrs_split (s : St) (k n : Nat) (t : Txt) : wrs s k n t = wrs0 s k n t ++ [(k, hd 49 n t)] := by simp [wrs, wrs0]
theorem wrs0_mem {s : St} {k n : Nat} {t : Txt} {p : Nat × Txt} (h : p ∈ wrs0 s k n t) : (k + 1 + cnt t.length < s.n ∧ p = (k + 1 + cnt t.length, [])) ∨ p = (k, hd 48 n t) ∨ ∃ i, i < cnt t.length ∧ p = (k + 1 + i, (t.drop (i * 64)).take 64) := by
  unfold wrs0 at h
  rcases List.mem_append.1 h with h | h
  · split at h
    · rename_i hk
      exact .inl ⟨hk, List.mem_singleton.1 h⟩
    · cases h
  · rcases List.mem_cons.1 h with h | h
    · exact .inr (.inl h)
    · obtain ⟨i, hi, rfl⟩ := List.mem_map.1 h
      exact .inr (.inr ⟨i, List.mem_range.1 hi, rfl⟩)
theorem wrs0_in {s : St} {k n : Nat} {t : Txt} (hn : n ≤ 5000) (ht : t.length ≤ 100000) (hf : k + cnt t.length < s.n) : InR s.n (wrs0 s k n t) := by
  intro p hp
  rcases wrs0_mem hp with ⟨h, rfl⟩ | rfl | ⟨i, hi, rfl⟩
  · exact ⟨h, Nat.zero_le _⟩
  · exact ⟨by dsimp only; omega, hd_len hn ht⟩
  · exact ⟨by dsimp only; omega, by dsimp only; rw [List.length_take]; omega⟩
theorem wrs0_got {s : St} {k n : Nat} {t : Txt} (hn : n ≤ 5000) (ht : t.length ≤ 100000) (hf : k + cnt t.length < s.n) (h0 : (runW s (wrs0 s k n t)).1 = 0) :
    rowF (runW s (wrs0 s k n t)).2.F (k * 64) 64 = pad (hd 48 n t) ∧ (∀ i, i < cnt t.length → rowF (runW s (wrs0 s k n t)).2.F ((k + 1 + i) * 64) 64 = pad ((t.drop (i * 64)).take 64)) ∧
    (k + 1 + cnt t.length < s.n → rowF (runW s (wrs0 s k n t)).2.F ((k + 1 + cnt t.length) * 64) 64 = pad []) := by
  have hg := runW_got _ (wrs0_in hn ht hf) h0
  have hc : ∀ c o, c ≤ k → lastW (chunks (k + 1) t) c o = o := fun c o h => lastW_far _ fun p hp => by
    obtain ⟨i, hi, rfl⟩ := List.mem_map.1 hp
    dsimp only
    omega
  refine ⟨?_, fun i hi => ?_, fun hk => ?_⟩
  · rw [hg]
    unfold wrs0
    rw [lastW_app, show (k, hd 48 n t) :: chunks (k + 1) t = [(k, hd 48 n t)] ++ chunks (k + 1) t from rfl, lastW_app, lastW_one, hc k _ (Nat.le_refl _)]
  · rw [hg]
    unfold wrs0
    rw [lastW_app, show (k, hd 48 n t) :: chunks (k + 1) t = [(k, hd 48 n t)] ++ chunks (k + 1) t from rfl, lastW_app]
    exact lastW_range (k + 1) (fun i => (t.drop (i * 64)).take 64) _ hi
  · rw [hg]
    unfold wrs0
    rw [if_pos hk, lastW_app, lastW_one]
    refine lastW_far _ fun p hp => ?_
    rcases List.mem_cons.1 hp with rfl | hp
    · dsimp only; omega
    · obtain ⟨i, hi, rfl⟩ := List.mem_map.1 hp
      have := List.mem_range.1 hi
      dsimp only
      omega
theorem rowF_pieces {F : Nat → UInt8} {k : Nat} {t : Txt} (h : ∀ i, i < cnt t.length → rowF F ((k + 1 + i) * 64) 64 = pad ((t.drop (i * 64)).take 64)) : rowF F ((k + 1) * 64) t.length = t := by
  apply List.ext_getElem?
  intro j
  by_cases hj : j < t.length
  · have hc : j / 64 < cnt t.length := by unfold cnt; omega
    have h1 := congrArg (fun l : List UInt8 => l[j % 64]?) (h _ hc)
    rw [rowF_get (by omega)] at h1
    unfold pad at h1
    rw [List.getElem?_append_left (by rw [List.length_take, List.length_drop]; omega), List.getElem?_take_of_lt (by omega), List.getElem?_drop, show j / 64 * 64 + j % 64 = j by omega, show (k + 1 + j / 64) * 64 + j % 64 = (k + 1) * 64 + j by omega] at h1
    rw [rowF_get hj, h1]
  · rw [List.getElem?_eq_none (by simp; omega), List.getElem?_eq_none (by omega)]
theorem hd_tail {n : Nat} {t : Txt} {m m' : UInt8} : ∀ i, i ≠ 0 → (hd m n t).getD i 0 = (hd m' n t).getD i 0 := by
  intro i hi
  cases i with
  | zero => exact absurd rfl hi
  | succ i => rfl
theorem append_last {s1 s2 : St} {l : List Txt} {k : Nat} {t : Txt} {m : UInt8} (hl : l.length ≤ 5000) (ht : t.length ≤ 100000) (hf : k + cnt t.length < s1.n) (hn : s2.n = s1.n) (hch : Ch s1 0 0 l k)
    (h1 : rowF s1.F (k * 64) 64 = pad (hd m l.length t)) (h2 : ∀ i, i < cnt t.length → rowF s1.F ((k + 1 + i) * 64) 64 = pad ((t.drop (i * 64)).take 64)) (h3 : k + 1 + cnt t.length < s1.n → rowF s1.F ((k + 1 + cnt t.length) * 64) 64 = pad [])
    (h : ∀ j, s2.F j = s1.F j ∨ (k * 64 ≤ j ∧ j < k * 64 + 64 ∧ s2.F j = (hd 49 l.length t).getD (j - k * 64) 0)) (h49 : s2.F (k * 64) = 49) : Ch s2 0 0 (l ++ [t]) (k + 1 + cnt t.length) ∧ Stop s2 (k + 1 + cnt t.length) := by
  have far : ∀ j, j < k * 64 ∨ k * 64 + 64 ≤ j → s2.F j = s1.F j := fun j hj => (h j).elim id fun hh => by omega
  have hs : rowF s2.F (k * 64) 64 = pad (hd 49 l.length t) := by
    rw [← rowF_pad _ (hd_len hl ht)]
    apply List.map_congr_left
    intro i hi
    have hi := List.mem_range.1 hi
    rw [Nat.zero_add]
    by_cases e : i = 0
    · subst e
      exact h49
    · have h4 : s1.F (k * 64 + i) = (hd m l.length t).getD i 0 := by
        have := congrArg (fun x : List UInt8 => x[i]?) (h1.trans (rowF_pad _ (hd_len hl ht)).symm)
        rw [rowF_get hi, rowF_get hi, Nat.zero_add] at this
        exact Option.some.inj this
      rcases h (k * 64 + i) with h5 | ⟨_, _, h5⟩
      · rw [h5, h4]
        exact hd_tail i e
      · rw [h5, Nat.add_sub_cancel_left]
  have hp : rowF s2.F ((k + 1) * 64) t.length = t := rowF_pieces fun i hi => by
    rw [← h2 i hi]
    exact rowF_congr fun j hj => far _ (.inr (by omega))
  refine ⟨(hch.far hn fun j hj => far j (.inl hj)).more ?_, ?_⟩
  · rw [Nat.zero_add]
    exact readR_good hl ht (by omega) hs hp
  · by_cases hk : k + 1 + cnt t.length < s1.n
    · refine .inr ?_
      rw [far _ (.inr (by omega))]
      have := congrArg (fun x : List UInt8 => x[0]?) (h3 hk)
      rw [rowF_get (by decide)] at this
      rw [show pad [] = List.replicate 64 0 from rfl] at this
      have := Option.some.inj this
      rw [Nat.add_zero] at this
      rw [this]
      decide
    · exact .inl (by omega)
theorem append_crash {s : St} {l : List Txt} {k : Nat} {t : Txt} (hl : l.length ≤ 5000) (ht : t.length ≤ 100000) (hf : k + cnt t.length < s.n) (hch : Ch s 0 0 l k) :
    (runW s (wrs s k l.length t)).2.n = s.n ∧
    ((runW s (wrs s k l.length t)).1 = 0 → Ch (runW s (wrs s k l.length t)).2 0 0 (l ++ [t]) (k + 1 + cnt t.length) ∧ Stop (runW s (wrs s k l.length t)).2 (k + 1 + cnt t.length)) ∧
    (s.F (k * 64) ≠ 49 → (Ch (runW s (wrs s k l.length t)).2 0 0 l k ∧ Stop (runW s (wrs s k l.length t)).2 k) ∨ (Ch (runW s (wrs s k l.length t)).2 0 0 (l ++ [t]) (k + 1 + cnt t.length) ∧ Stop (runW s (wrs s k l.length t)).2 (k + 1 + cnt t.length))) := by
  have hin := wrs0_in hl ht hf
  obtain ⟨hn1, hany⟩ := runW_any _ hin
  have low : ∀ j, j < k * 64 → (runW s (wrs0 s k l.length t)).2.F j = s.F j := by
    intro j hj
    rcases hany j with h | ⟨p, hp, h5, h6, _⟩
    · exact h
    · rcases wrs0_mem hp with ⟨_, rfl⟩ | rfl | ⟨i, hi, rfl⟩ <;> (dsimp only at h5; omega)
  have hch1 := hch.far hn1 low
  rw [wrs_split, runW_app]
  by_cases e0 : (runW s (wrs0 s k l.length t)).1 = 0
  · rw [if_pos e0]
    obtain ⟨g1, g2, g3⟩ := wrs0_got hl ht hf e0
    generalize hs1 : (runW s (wrs0 s k l.length t)).2 = s1 at *
    have hk1 : k < s1.n := by omega
    obtain ⟨w1, w2⟩ := write_any hk1 (hd_len (m := 49) hl ht)
    have hfull := append_last (s2 := (s1.write (k : Int) (hd 49 l.length t)).2) hl ht (by omega) w1 hch1 g1 g2 (by rw [hn1]; exact g3) w2
    have hr : runW s1 [(k, hd 49 l.length t)] = s1.write (k : Int) (hd 49 l.length t) := by
      simp only [runW]
      split
      · rename_i h; exact Prod.ext h.symm rfl
      · rfl
    rw [hr]
    refine ⟨w1.trans hn1, fun h => hfull ?_, fun _ => ?_⟩
    · have := write_got hk1 (hd_len hl ht) h k
      rw [if_pos rfl] at this
      have := congrArg (fun x : List UInt8 => x[0]?) this
      rw [rowF_get (by decide)] at this
      exact Option.some.inj this
    · by_cases h49 : (s1.write (k : Int) (hd 49 l.length t)).2.F (k * 64) = 49
      · exact .inr (hfull h49)
      · refine .inl ⟨hch1.far w1 fun j hj => ?_, .inr h49⟩
        rcases w2 j with h | ⟨h5, _, _⟩
        · exact h
        · omega
  · rw [if_neg e0]
    refine ⟨hn1, fun h => absurd h e0, fun hz => .inl ⟨hch1, .inr ?_⟩⟩
    rcases hany (k * 64) with h | ⟨p, hp, h5, h6, h7⟩
    · rw [h]; exact hz
    · rcases wrs0_mem hp with ⟨_, rfl⟩ | rfl | ⟨i, hi, rfl⟩
      · dsimp only at h5; omega
      · rw [h7, Nat.sub_self]
        show (48 : UInt8) ≠ 49
        decide
      · dsimp only at h5; omega
end Go.Proofs.YtkdlmkbpfdogcaaGreatDoor
namespace Go.Proofs.YtkdlmkbpfdogcaaGreatDoor
open Go.RowKit Vc
variable {w w0 : World}
structure Tidy (j : Js) : Prop where
  ok : j.Ok
  ch : Ch j.s 0 0 j.l j.k
  st : Stop j.s j.k
theorem append_ofs {j : Js} {t : Txt} (ht : t.length ≤ 100000) (hf : j.k + cnt t.length < j.s.n) :
    (j.append t).1 = (runW j.s (wrs j.s j.k j.l.length t)).1 ∧ (j.append t).2.s = (runW j.s (wrs j.s j.k j.l.length t)).2 ∧ ((runW j.s (wrs j.s j.k j.l.length t)).1 = 0 → (j.append t).2.l = j.l ++ [t] ∧ (j.append t).2.k = j.k + 1 + cnt t.length) := by
  rw [append_run ht hf (x := (runW j.s (wrs j.s j.k j.l.length t)).1) (s' := (runW j.s (wrs j.s j.k j.l.length t)).2) rfl]
  split
  · rename_i h
    exact ⟨h.symm, rfl, fun _ => ⟨rfl, rfl⟩⟩
  · rename_i h
    exact ⟨rfl, rfl, fun e => absurd e h⟩
theorem wrs_in {s : St} {k n : Nat} {t : Txt} (hn : n ≤ 5000) (ht : t.length ≤ 100000) (hf : k + cnt t.length < s.n) : InR s.n (wrs s k n t) := by
  intro p hp
  rw [wrs_split] at hp
  rcases List.mem_append.1 hp with hp | hp
  · exact wrs0_in hn ht hf p hp
  · rw [List.mem_singleton.1 hp]
    exact ⟨by dsimp only; omega, hd_len hn ht⟩
theorem Js.Ok.len {j : Js} (ok : j.Ok) : j.l.length ≤ 5000 := by have := ok.l; have := ok.k; have := ok.s.n2; omega
theorem Tidy.append {j : Js} (h : Tidy j) (he : j.s.e = true) {t : Txt} (ht : t.length ≤ 100000) (hf : j.k + cnt t.length < j.s.n) :
    (j.append t).1 = 0 ∧ Tidy (j.append t).2 ∧ (j.append t).2.l = j.l ++ [t] ∧ (j.append t).2.k = j.k + 1 + cnt t.length ∧ (j.append t).2.s.n = j.s.n ∧ (j.append t).2.s.e = true := by
  obtain ⟨a1, a2, a3⟩ := append_ofs ht hf
  obtain ⟨e1, e2⟩ := runW_endless _ (wrs_in h.ok.len ht hf) he
  obtain ⟨c1, c2, _⟩ := append_crash h.ok.len ht hf h.ch
  obtain ⟨l1, l2⟩ := a3 e1
  obtain ⟨g1, g2⟩ := c2 e1
  refine ⟨a1.trans e1, ⟨(Js.append_ok h.ok t).1, ?_, ?_⟩, l1, l2, ?_, ?_⟩
  · rw [a2, l1, l2]; exact g1
  · rw [a2, l2]; exact g2
  · rw [a2]; exact c1
  · rw [a2]; exact e2
theorem lim_ok {s : St} (h : s.Ok) {n m : Int} (hn : n < 9223372036854775808) (hm0 : 0 ≤ m) (hm1 : m < 18446744073709551616) : (s.limit n m).Ok :=
  ⟨h.n1, h.n2, by simp only [St.limit]; split <;> omega, by simp only [St.limit]; split <;> omega, hm0, hm1⟩
theorem Tidy.limit {j : Js} (h : Tidy j) {n m : Int} (hn : n < 9223372036854775808) (hm0 : 0 ≤ m) (hm1 : m < 18446744073709551616) : Tidy ⟨j.s.limit n m, j.l, j.k⟩ :=
  ⟨⟨lim_ok h.ok.s hn hm0 hm1, h.ok.k, h.ok.l⟩, Ch.far (s := j.s) (s' := j.s.limit n m) rfl h.ch fun _ _ => rfl, h.st⟩
theorem Tidy.torn {j : Js} (h : Tidy j) {t : Txt} (ht : t.length ≤ 100000) (hf : j.k + cnt t.length < j.s.n) :
    ∃ (l' : List Txt) (k' : Nat), (l' = j.l ∨ l' = j.l ++ [t]) ∧ ((j.append t).1 = 0 → l' = j.l ++ [t]) ∧ k' ≤ j.k + 1 + cnt t.length ∧ Js.opened (j.append t).2.s.restart = ⟨(j.append t).2.s.restart, l', k'⟩ ∧ Tidy ⟨(j.append t).2.s.restart, l', k'⟩ ∧ (j.append t).2.s.n = j.s.n := by
  obtain ⟨a1, a2, _⟩ := append_ofs ht hf
  obtain ⟨c1, c2, c3⟩ := append_crash h.ok.len ht hf h.ch
  have hok := (Js.append_ok h.ok t).1.s
  have fin : ∀ (l' : List Txt) (k' : Nat), k' ≤ j.s.n → Ch (runW j.s (wrs j.s j.k j.l.length t)).2 0 0 l' k' → Stop (runW j.s (wrs j.s j.k j.l.length t)).2 k' → Js.opened (j.append t).2.s.restart = ⟨(j.append t).2.s.restart, l', k'⟩ ∧ Tidy ⟨(j.append t).2.s.restart, l', k'⟩ := by
    intro l' k' hk hc hs
    rw [← a2] at hc hs
    have hn : (j.append t).2.s.n = j.s.n := by rw [a2]; exact c1
    have hc' : Ch (j.append t).2.s.restart 0 0 l' k' := Ch.far (s := (j.append t).2.s) (s' := (j.append t).2.s.restart) rfl hc fun _ _ => rfl
    have hs' : Stop (j.append t).2.s.restart k' := hs
    have hle := hc.le
    exact ⟨opened_ch hc' (hs'.none _) (by show k' ≤ (j.append t).2.s.n; omega), ⟨restart_ok hok, by show k' ≤ (j.append t).2.s.n; omega, by dsimp only; omega⟩, hc', hs'⟩
  have hn : (j.append t).2.s.n = j.s.n := by rw [a2]; exact c1
  by_cases e : (runW j.s (wrs j.s j.k j.l.length t)).1 = 0
  · obtain ⟨g1, g2⟩ := c2 e
    obtain ⟨f1, f2⟩ := fin _ _ (by omega) g1 g2
    exact ⟨_, _, .inr rfl, fun _ => rfl, Nat.le_refl _, f1, f2, hn⟩
  · have hz : j.s.F (j.k * 64) ≠ 49 := h.st.elim (fun h => by omega) id
    rcases c3 hz with ⟨g1, g2⟩ | ⟨g1, g2⟩
    · obtain ⟨f1, f2⟩ := fin _ _ (by omega) g1 g2
      exact ⟨_, _, .inl rfl, fun h => absurd (a1.symm.trans h) e, by omega, f1, f2, hn⟩
    · obtain ⟨f1, f2⟩ := fin _ _ (by omega) g1 g2
      exact ⟨_, _, .inr rfl, fun _ => rfl, Nat.le_refl _, f1, f2, hn⟩
theorem Jr.turn {gj g b : Nat} {rp : Option Nat} {j : Js} (h : Jr w0 w gj g b rp j) {w' : World} (hm : Mod (fun i => i = g ∨ i = b) w w') {s' : St} (d : Dev w' g b s') : Jr w0 w' gj g b rp ⟨s', j.l, j.k⟩ := by
  obtain ⟨p, c, t1, t2, t3⟩ := h.top
  refine ⟨d, ⟨p, c, t1.mod hm ?_, t2.mod hm ?_, t3⟩, h.low⟩
  · rintro (e | e)
    · exact t1.ne h.dev.top (by decide) e
    · exact t1.ne h.dev.bytes (by decide) e
  · rintro k hk
    obtain ⟨cur, hc⟩ := t2.typed hk
    rintro (e | e)
    · exact hc.ne h.dev.top (by decide) e
    · exact hc.ne h.dev.bytes (by decide) e
def secs (l : List Mo) : Nat := (l.map fun m => 1 + cnt (menc m).length).sum
theorem secs_cons (m : Mo) (l : List Mo) : secs (m :: l) = 1 + cnt (menc m).length + secs l := by simp [secs]
theorem addC_tidy : ∀ (la : List Mo) (c : Cs22) (n : Nat), Tidy c.j → c.j.s.e = true → (∀ m ∈ la, m.Few) → c.j.k + secs la ≤ c.j.s.n →
    ∃ c', addC la c n = (n + la.length, 0, c') ∧ Tidy c'.j ∧ c'.l = c.l ++ la ∧ c'.j.l = c.j.l ++ la.map menc ∧ c'.j.k = c.j.k + secs la ∧ c'.j.s.n = c.j.s.n ∧ c'.j.s.e = true
  | [], c, n, h, he, _, _ => ⟨c, rfl, h, by simp, by simp, by simp [secs], rfl, he⟩
  | m :: r, c, n, h, he, hf, hs => by
    rw [secs_cons] at hs
    have hm := hf m (List.mem_cons_self ..)
    have hl := hm.len
    obtain ⟨a1, a2, a3, a4, a5, a6⟩ := h.append he (t := menc m) (by omega) (by omega)
    obtain ⟨c', e1, e2, e3, e4, e5, e6, e7⟩ := addC_tidy r ⟨(c.j.append (menc m)).2, c.l ++ [m]⟩ (n + 1) a2 a6 (fun x hx => hf x (List.mem_cons_of_mem _ hx)) (by dsimp only; omega)
    refine ⟨c', ?_, e2, ?_, ?_, ?_, e6.trans a5, e7⟩
    · simp only [addC]
      rw [if_pos a1, e1]
      simp only [List.length_cons]
      congr 1
      omega
    · rw [e3]; simp
    · rw [e4]; dsimp only; rw [a3]; simp
    · rw [e5, secs_cons]; dsimp only; omega
theorem fm_menc {la : List Mo} (h : ∀ m ∈ la, m.Few) : (la.map menc).filterMap mdec = la := by
  induction la with
  | nil => rfl
  | cons m r ih =>
    rw [List.map_cons, List.filterMap_cons, mdec_menc (h m (List.mem_cons_self ..))]
    dsimp only
    rw [ih fun x hx => h x (List.mem_cons_of_mem _ hx)]
theorem Tidy.opened {j : Js} (h : Tidy j) : Js.opened j.s = j := opened_ch h.ch (h.st.none _) h.ok.k
theorem sec_few {m : Mo} (h : m.Few) : 640 * (1 + cnt (menc m).length) ≤ 101 * m.wt := by
  have h1 := h.parts.2
  have h3 := (tcs_total m.r).2
  have h4 := (tcs_total m.w).2
  unfold cnt Mo.wt
  omega
theorem secs_le {l : List Mo} (h : RightL l) : secs l ≤ 94 := by
  have key : ∀ l : List Mo, (∀ m ∈ l, m.Few) → 640 * secs l ≤ 101 * mw l := by
    intro l
    induction l with
    | nil => intro _; exact Nat.le_refl _
    | cons m r ih =>
      intro hf
      have := ih fun x hx => hf x (List.mem_cons_of_mem _ hx)
      have := sec_few (hf m (List.mem_cons_self ..))
      rw [secs_cons, mw_cons]
      omega
  have := key l fun m hm => h.few hm
  have := h.2
  omega
theorem mw_length : ∀ l : List Mo, 20 * l.length ≤ mw l
  | [] => Nat.le_refl _
  | m :: r => by
    have := mw_length r
    rw [mw_cons]
    simp only [List.length_cons, Mo.wt]
    omega
theorem RightL.length {l : List Mo} (h : RightL l) : l.length ≤ 30 := by have := mw_length l; have := h.2; omega
theorem new_tidy {n : Nat} (h1 : 1 ≤ n) (h2 : n ≤ 4096) : Tidy ⟨St.new n, [], 0⟩ := ⟨⟨new_ok h1 h2, Nat.zero_le _, Nat.le_refl _⟩, rfl, .inr (by show (0 : UInt8) ≠ 49; decide)⟩
theorem openC_new (n : Nat) (h : 0 < n) : openC (St.new n) = ⟨⟨St.new n, [], 0⟩, []⟩ := by
  unfold openC
  rw [opened_new n h]
  rfl
def moA : Mo := ⟨[97], [], [], 0, [], []⟩
def moB : Mo := ⟨[98], [], [], 0, [], []⟩
theorem moA_few : moA.Few := ⟨by decide, by decide, by decide⟩
theorem moB_few : moB.Few := ⟨by decide, by decide, by decide⟩
set_option maxRecDepth 10000 in
theorem awake22_spec (he : Env w0) (h0 : Still w0 w) : Calls Tryz.prog fn_law22_awake #[] w (fun e w' => e = .returned (.bool true) ∧ Still w w') := by
  refine law22_awake_calls _ _ ?_
  refine (device_New_spec (n := 20) (by decide) (by decide)).mono ?_
  rintro _ w1 ⟨g, b, rfl, m1, hg, hb, d1⟩
  have s1 : Still w w1 := m1
  have hz := h0.size
  have z1 := s1.size
  refine .inl ⟨_, _, rfl, bsel_of (fun h => by cases h) (fun _ => ?_)⟩
  refine (copen_spec he (h0.trans s1) d1 (new_ok (by decide) (by decide)) (by omega) (by omega)).mono ?_
  rintro _ w2 ⟨gj, gc, rp, rm, F, rfl, s2, hgj, hgc, hrp, hrm, hF, C2⟩
  rw [show Int.toNat 20 = 20 from rfl, openC_new 20 (by decide)] at C2
  refine .inl ⟨_, rfl, bsel_of (fun h => by cases h) (fun _ => ?_)⟩
  refine allocK fun w3 r3 s3 z3 => ?_
  have C3 := (C2.still s3).widen (G := fun k => F k ∨ k = w2.heap.size) (fun k h => .inl h) fun k h => by
    rcases h with h | rfl
    · exact ⟨by have := (C2.fl k h).1; omega, (C2.fl k h).2⟩
    · exact ⟨by omega, fun hc => by have := (C2.foot hc).2; omega⟩
  have hla : moE.At w3 (fun k => k = w2.heap.size) [moA, moB] (.slice (some (Addr.mk w2.heap.size 0 none)) [moA, moB].length 2) :=
    Enc.At.row r3 ⟨moC moA (.slice none 0 0) (.slice none 0 0), _, rfl, ⟨_, _, rfl, Enc.At.nil _ _ _ _ _, Enc.At.nil _ _ _ _ _⟩, moC moB (.slice none 0 0) (.slice none 0 0), _, rfl, ⟨_, _, rfl, Enc.At.nil _ _ _ _ _, Enc.At.nil _ _ _ _ _⟩, rfl⟩ rfl (Nat.le_refl _)
  have T2 := new_tidy (n := 20) (by decide) (by decide)
  have ok2 : (⟨⟨St.new 20, [], 0⟩, []⟩ : Cs22).Ok := ⟨T2.ok, Nat.le_refl _, fun x hx => by cases hx⟩
  have hfew : ∀ m ∈ [moA, moB], m.Few := by
    intro m hm
    simp only [List.mem_cons, List.not_mem_nil, or_false] at hm
    rcases hm with rfl | rfl
    · exact moA_few
    · exact moB_few
  have hsec : secs [moA, moB] ≤ 20 := by
    have h1 := sec_few moA_few
    have h2 := sec_few moB_few
    have e1 : moA.wt = 21 := rfl
    have e2 : moB.wt = 21 := rfl
    rw [secs_cons, secs_cons]
    have : secs [] = 0 := rfl
    omega
  obtain ⟨c', e1, e2, e3, e4, e5, e6, e7⟩ := addC_tidy [moA, moB] ⟨⟨St.new 20, [], 0⟩, []⟩ 0 T2 rfl hfew (by show 0 + _ ≤ 20; omega)
  refine (cadd_spec he ((h0.trans s1).trans (s2.trans s3)) C3 ok2 hla (fun k h => .inr h) hfew (by decide)).mono ?_
  rintro _ w4 ⟨rfl, rp4, rm4, C4, m4, n4, n4'⟩
  have s14 : Still w w4 := Mod.trans ((s1.trans s2).trans s3) m4 (fun _ h => h) fun i hi hk => by
    rcases hk with hk | hk | hk
    · rcases hk with e | e | e | e
      · have : i = g := e; omega
      · have : i = b := e; omega
      · have : i = gj := e; omega
      · rcases hrp _ e with e | e
        · cases e
        · omega
    · omega
    · rcases hrm _ hk with e | e
      · cases e
      · omega
  rw [e1] at C4 ⊢
  have d4 : Dev w4 g b c'.j.s := C4.jr.dev
  refine .inl ⟨_, _, rfl, (copen_spec he (h0.trans s14) d4 e2.ok.s (by omega) (by omega)).mono ?_⟩
  rintro _ w5 ⟨gj5, gc5, rp5, rm5, F5, rfl, s5, _, _, _, _, _, C5⟩
  have eo : openC c'.j.s = ⟨c'.j, [moA, moB]⟩ := by
    unfold openC
    rw [e2.opened, e4]
    show (⟨c'.j, ([moA, moB].map menc).filterMap mdec⟩ : Cs22) = _
    rw [fm_menc hfew]
  rw [eo] at C5
  refine .inl ⟨_, rfl, bsel_of (fun _ => bsel_of (fun _ => bsel_of (fun _ => ?_) (fun h => by cases h)) (fun h => by cases h)) (fun h => by cases h)⟩
  refine (cmemos_spec C5 (by show 2 ≤ 100000; decide)).mono ?_
  rintro _ w6 ⟨q, D, rfl, hq, s6⟩
  refine .inl ⟨_, _, _, rfl, bsel_of (fun _ => ?_) (fun h => by cases h)⟩
  refine (cmemos_spec (C5.still s6) (by show 2 ≤ 100000; decide)).mono ?_
  rintro _ w7 ⟨q7, D7, rfl, hq7, s7⟩
  obtain ⟨a, pr, cr, pw, cw, rfl, _, _, hc⟩ := moE_get hq7 (i := 1) (x := moB) rfl
  exact .inl ⟨_, _, _, rfl, by decide, by show (1 : Int) < ((2 : Nat) : Int); decide, _, hc.1, rfl, ((s14.trans s5).trans s6).trans s7⟩
def Mo.Sz (m : Mo) : Prop := m.k.length ≤ 140737488355328 ∧ m.o.length ≤ 140737488355328 ∧ m.e.length ≤ 140737488355328 ∧ (∀ t ∈ m.r, t.p.length ≤ 140737488355328 ∧ t.v.length ≤ 140737488355328) ∧ (∀ t ∈ m.w, t.p.length ≤ 140737488355328 ∧ t.v.length ≤ 140737488355328) ∧ m.r.length ≤ 140737488355328 ∧ m.w.length ≤ 140737488355328
theorem tw_snoc {l : List Tc} {k : Nat} (h : k < l.length) : tw (l.take (k + 1)) = tw (l.take k) + (10 + l[k].p.length + l[k].v.length) := by
  have e : ∀ a b : List Tc, tw (a ++ b) = tw a + tw b := fun a b => by simp [tw]
  rw [take_snoc h, e]
  simp [tw]
theorem mw_snoc {l : List Mo} {k : Nat} (h : k < l.length) : mw (l.take (k + 1)) = mw (l.take k) + l[k].wt := by
  rw [take_snoc h, mw_append]
  simp [mw]
def Small (n : Int) (z : Nat) : Prop := 0 ≤ n ∧ n ≤ 1000000000000000 ∧ (n ≤ 600 → n = (z : Int))
theorem Small.add {n : Int} {z : Nat} (h : Small n z) (h6 : n ≤ 600) {a b c : Nat} (ha : a ≤ 140737488355328) (hb : b ≤ 140737488355328) (hc : c ≤ 30) : Small (IntKind.i64.wrap (IntKind.i64.wrap (IntKind.i64.wrap (n + (c : Int)) + (a : Int)) + (b : Int))) (z + (c + a + b)) := by
  obtain ⟨h1, h2, h3⟩ := h
  have h3 := h3 h6
  rw [wrap_i64 (n := n + (c : Int)) (by omega) (by omega), wrap_i64 (n := n + (c : Int) + (a : Int)) (by omega) (by omega), wrap_i64 (by omega) (by omega)]
  exact ⟨by omega, by omega, fun _ => by omega⟩
set_option maxRecDepth 10000 in
set_option maxHeartbeats 1000000 in
theorem right_spec {F : Nat → Prop} {la : List Mo} {p : Option Addr} {n c : Nat} (ha : moE.At w F la (.slice p n c)) (hs : ∀ m ∈ la, m.Sz) (hL : la.length ≤ 140737488355328) :
    Calls Tryz.prog fn_law22_Right #[.slice p n c] w (fun e w' => (∃ b : Bool, e = .returned (.bool b) ∧ (b = true → RightL la)) ∧ Still w w') := by
  refine law22_Right_calls _ _ _ _ _ ?_
  obtain ⟨e1, _⟩ := ha.len
  subst e1
  refine ⟨fun z x w1 => ∃ i : Nat, x = (i : Int) ∧ i ≤ la.length ∧ Small z (mw (la.take i)) ∧ (∀ m ∈ la.take i, 0 ≤ m.st ∧ m.st ≤ 255) ∧ Still w w1, fun _ x _ => la.length - x.toNat, ⟨0, rfl, Nat.zero_le _, ⟨by decide, by decide, fun _ => rfl⟩, (fun m hm => by cases hm), Still.refl _⟩, ?_⟩
  rintro z _ _ w1 ⟨i, rfl, hi, hz, hst, s1⟩
  refine bsel_of (fun hx => bsel_of (fun h6 => ?_) (fun h6 => ?_)) (fun hx => ?_)
  rotate_left
  · exact ⟨⟨_, rfl, fun h => by rw [h6] at h; cases h⟩, s1⟩
  · have hx : i = la.length := by have := of_decide_eq_false hx; omega
    subst hx
    rw [List.take_length] at hz hst
    refine ⟨⟨_, rfl, fun h => ⟨hst, ?_⟩⟩, s1⟩
    have h := of_decide_eq_true h
    have := hz.2.2 h
    omega
  have hx : i < la.length := by have := of_decide_eq_true hx; omega
  have h6 := of_decide_eq_true h6
  obtain ⟨a, pr, cr, pw, cw, rfl, q1, q2, hc⟩ := moE_get ha (getD_some hx)
  have hsz := hs _ (List.getElem_mem hx)
  have hmw := mw_snoc hx
  have htk := take_snoc hx
  generalize la[i] = m at *
  obtain ⟨g1, g2, g3, g4, g5, g6, g7⟩ := hsz
  have A : ∀ wq, Still w wq → MoAt wq (a.add (Int.toNat (i : Int) * 6)) m pr cr pw cw := fun wq hq => by rw [Int.toNat_natCast]; exact hc.still hq
  have A4 : ∀ wq, Still w wq → wq.cell? (((a.add (Int.toNat (i : Int) * 6)).add 3).add 1) = some (.string (S m.o)) := fun wq hq => by rw [adds]; exact (A wq hq).2.2.2.2.1
  have A5 : ∀ wq, Still w wq → wq.cell? (((a.add (Int.toNat (i : Int) * 6)).add 3).add 2) = some (.string (S m.e)) := fun wq hq => by rw [adds]; exact (A wq hq).2.2.2.2.2
  have i0 : (0 : Int) ≤ (i : Int) := by omega
  have iL : (i : Int) < (la.length : Nat) := by omega
  refine ⟨i0, iL, m.k, (A w1 s1).1, i0, iL, m.o, A4 w1 s1, i0, iL, m.e, A5 w1 s1, ?_⟩
  have z0 : Small (IntKind.i64.wrap (IntKind.i64.wrap (IntKind.i64.wrap (IntKind.i64.wrap (z + 20) + (m.k.length : Int)) + (m.o.length : Int)) + (m.e.length : Int))) (mw (la.take i) + 20 + m.k.length + m.o.length + m.e.length + tw (m.r.take 0)) := by
    obtain ⟨h1, h2, h3⟩ := hz
    have h3 := h3 h6
    have e0 : tw (m.r.take 0) = 0 := rfl
    rw [wrap_i64 (n := z + 20) (by omega) (by omega), wrap_i64 (n := z + 20 + (m.k.length : Int)) (by omega) (by omega), wrap_i64 (n := z + 20 + (m.k.length : Int) + (m.o.length : Int)) (by omega) (by omega), wrap_i64 (by omega) (by omega)]
    exact ⟨by omega, by omega, fun _ => by omega⟩
  generalize IntKind.i64.wrap (IntKind.i64.wrap (IntKind.i64.wrap (IntKind.i64.wrap (z + 20) + (m.k.length : Int)) + (m.o.length : Int)) + (m.e.length : Int)) = z1 at z0
  have s1D := s1.toDrew
  refine ⟨fun z2 x w2 => ∃ k : Nat, x = (k : Int) ∧ k ≤ m.r.length ∧ Small z2 (mw (la.take i) + 20 + m.k.length + m.o.length + m.e.length + tw (m.r.take k)) ∧ Still w w2, fun _ x _ => m.r.length - x.toNat, ⟨0, rfl, Nat.zero_le _, z0, s1D⟩, ?_⟩
  rintro z2 _ _ w2 ⟨k, rfl, hk, hz2, s2⟩
  refine ⟨fun w3 => (k < m.r.length ∧ z2 ≤ 600) ∧ w3 = w2, ⟨fun x w3 => (x = true → k < m.r.length ∧ z2 ≤ 600) ∧ (x = false → z2 ≤ 600 → k = m.r.length) ∧ w3 = w2, ⟨i0, iL, pr, _, cr, (A w2 s2).2.1, bsel_of (fun h => ⟨fun h2 => ⟨by have := of_decide_eq_true h; omega, of_decide_eq_true h2⟩, fun h2 h3 => absurd h3 (of_decide_eq_false h2), rfl⟩) (fun h => ⟨(fun h2 => by cases h2), fun _ _ => by have := of_decide_eq_false h; omega, rfl⟩)⟩, ?_⟩, ?_⟩
  · rintro x _ w3 ⟨hx1, hx2, rfl⟩
    refine bsel_of (fun h => ⟨hx1 h, rfl⟩) (fun h => ?_)
    have hend := hx2 h
    clear hx1 hx2
    have zz : Small z2 (mw (la.take i) + 20 + m.k.length + m.o.length + m.e.length + tw m.r + tw (m.w.take 0)) := by
      obtain ⟨h1, h2, h3⟩ := hz2
      refine ⟨h1, h2, fun h => ?_⟩
      have h4 := h3 h
      rw [hend h, List.take_length] at h4
      have e0 : tw (m.w.take 0) = 0 := rfl
      omega
    refine ⟨fun z3 x w4 => ∃ k : Nat, x = (k : Int) ∧ k ≤ m.w.length ∧ Small z3 (mw (la.take i) + 20 + m.k.length + m.o.length + m.e.length + tw m.r + tw (m.w.take k)) ∧ Still w w4, fun _ x _ => m.w.length - x.toNat, ⟨0, rfl, Nat.zero_le _, zz, s2⟩, ?_⟩
    rintro z3 _ _ w4 ⟨k', rfl, hk', hz3, s4⟩
    have fin : (z3 ≤ 600 → k' = m.w.length) → bsel (decide (m.st < 0)) ((∃ b : Bool, (Ending.returned (.bool false)) = .returned (.bool b) ∧ (b = true → RightL la)) ∧ Still w w4) (0 ≤ (i : Int) ∧ (i : Int) < (la.length : Nat) ∧ someK (some a) (fun a10 => ∃ v10 : Int, w4.cell? ((a10.add (Int.toNat (i : Int) * 6)).add 3) = some (.int .i64 v10) ∧ bsel (decide (255 < v10)) ((∃ b : Bool, (Ending.returned (.bool false)) = .returned (.bool b) ∧ (b = true → RightL la)) ∧ Still w w4) ((∃ i' : Nat, IntKind.i64.wrap ((i : Int) + 1) = (i' : Int) ∧ i' ≤ la.length ∧ Small z3 (mw (la.take i')) ∧ (∀ m ∈ la.take i', 0 ≤ m.st ∧ m.st ≤ 255) ∧ Still w w4) ∧ la.length - (IntKind.i64.wrap ((i : Int) + 1)).toNat < la.length - (i : Int).toNat))) := by
      intro hfin
      refine bsel_of (fun _ => ⟨⟨_, rfl, fun h => by cases h⟩, s4⟩) (fun hs0 => ⟨i0, iL, m.st, (A w4 s4).2.2.2.1, bsel_of (fun _ => ⟨⟨_, rfl, fun h => by cases h⟩, s4⟩) (fun hs1 => ?_)⟩)
      rw [wrap_i64 (by omega) (by omega)]
      refine ⟨⟨i + 1, by omega, hx, ?_, ?_, s4⟩, by first | omega | (dsimp only; omega)⟩
      · obtain ⟨h1, h2, h3⟩ := hz3
        refine ⟨h1, h2, fun h => ?_⟩
        have h4 := h3 h
        rw [hfin h, List.take_length] at h4
        rw [hmw]
        unfold Mo.wt
        omega
      · rw [htk]
        intro y hy
        rcases List.mem_append.1 hy with hy | hy
        · exact hst y hy
        · rw [List.mem_singleton.1 hy]
          have := of_decide_eq_false hs0
          have := of_decide_eq_false hs1
          omega
    refine ⟨i0, iL, pw, _, cw, (A w4 s4).2.2.1, bsel_of (fun hx3 => bsel_of (fun h63 => ?_) (fun h63 => ?_)) (fun hx3 => ?_)⟩
    · have hx3 : k' < m.w.length := by have := of_decide_eq_true hx3; omega
      have h63 := of_decide_eq_true h63
      obtain ⟨aw, rfl, hcw⟩ := tcE_get q2 (getD_some hx3)
      have hst := tw_snoc hx3
      have hszt := g5 _ (List.getElem_mem hx3)
      generalize m.w[k'] = t at *
      obtain ⟨c0, c1, c2⟩ := hcw w4 s4
      refine ⟨i0, iL, _, _, _, (A w4 s4).2.2.1, by omega, by omega, t.p, by rw [Int.toNat_natCast]; exact c0, i0, iL, _, _, _, (A w4 s4).2.2.1, by omega, by omega, t.v, by rw [Int.toNat_natCast]; exact c2, ?_⟩
      have hadd := hz3.add (c := 10) h63 hszt.1 hszt.2 (by decide)
      rw [wrap_i64 (n := (k' : Int) + 1) (by omega) (by omega)]
      refine ⟨⟨k' + 1, by omega, hx3, ?_, s4.toDrew⟩, by first | omega | (dsimp only; omega)⟩
      rw [hst]
      rw [show mw (la.take i) + 20 + m.k.length + m.o.length + m.e.length + tw m.r + (tw (m.w.take k') + (10 + t.p.length + t.v.length)) = mw (la.take i) + 20 + m.k.length + m.o.length + m.e.length + tw m.r + tw (m.w.take k') + (10 + t.p.length + t.v.length) by omega]
      exact hadd
    · exact ⟨i0, iL, m.st, (A w4 s4).2.2.2.1, fin fun h => absurd h (of_decide_eq_false h63)⟩
    · exact ⟨i0, iL, m.st, (A w4 s4).2.2.2.1, fin fun _ => by have := of_decide_eq_false hx3; omega⟩
  rintro _ w5 ⟨⟨hkr, h62⟩, rfl⟩
  obtain ⟨ar, rfl, hcr⟩ := tcE_get q1 (getD_some hkr)
  have hst2 := tw_snoc hkr
  have hszt := g4 _ (List.getElem_mem hkr)
  generalize m.r[k] = t at *
  obtain ⟨c0, c1, c2⟩ := hcr w5 s2
  refine ⟨i0, iL, _, _, _, (A w5 s2).2.1, by omega, by omega, t.p, by rw [Int.toNat_natCast]; exact c0, i0, iL, _, _, _, (A w5 s2).2.1, by omega, by omega, t.v, by rw [Int.toNat_natCast]; exact c2, ?_⟩
  have hadd := hz2.add (c := 10) h62 hszt.1 hszt.2 (by decide)
  rw [wrap_i64 (n := (k : Int) + 1) (by omega) (by omega)]
  refine ⟨⟨k + 1, by omega, hkr, ?_, s2.toDrew⟩, by first | omega | (dsimp only; omega)⟩
  rw [hst2]
  rw [show mw (la.take i) + 20 + m.k.length + m.o.length + m.e.length + (tw (m.r.take k) + (10 + t.p.length + t.v.length)) = mw (la.take i) + 20 + m.k.length + m.o.length + m.e.length + tw (m.r.take k) + (10 + t.p.length + t.v.length) by omega]
  exact hadd
end Go.Proofs.YtkdlmkbpfdogcaaGreatDoor
namespace Go.Proofs.YtkdlmkbpfdogcaaGreatDoor
open Go.RowKit Vc
variable {w w0 : World}
structure I22 where
  g : Nat
  b : Nat
  gj : Nat
  gc : Nat
  rp : Option Nat
  rm : Option Nat
  h : Nat
  q : Nat
  hj : Nat
  hc : Nat
  rq : Option Nat
  rn : Option Nat
def I22.A (i : I22) (k : Nat) : Prop := Foot i.gj i.g i.b i.rp k ∨ k = i.gc ∨ i.rm = some k
def I22.B (i : I22) (k : Nat) : Prop := Foot i.hj i.h i.q i.rq k ∨ k = i.hc ∨ i.rn = some k
structure P22 (w0 w : World) (i : I22) (F : Nat → Prop) (c c' : Cs22) : Prop where
  prog : Cj (kJ w0 i.gj i.g i.b) w F ty_cache_Cache i.gc i.rp i.rm c.j c.l
  ref : Cj (kR w0 i.hj i.h i.q) w F ty_scullionref22_Cache i.hc i.rq i.rn c'.j c'.l
  apart : ∀ k, i.A k → ¬ i.B k
section
variable {i : I22} {F : Nat → Prop} {c c' : Cs22}
theorem P22.dev (t : P22 w0 w i F c c') : Dev w i.g i.b c.j.s := Jr.dev t.prog.jr
theorem P22.rdev (t : P22 w0 w i F c c') : Ref w i.h i.q c'.j.s := Rj.dev t.ref.jr
theorem P22.footA (t : P22 w0 w i F c c') {k : Nat} (hk : i.A k) : w0.heap.size ≤ k ∧ k < w.heap.size := t.prog.foot hk
theorem P22.footB (t : P22 w0 w i F c c') {k : Nat} (hk : i.B k) : w0.heap.size ≤ k ∧ k < w.heap.size := t.ref.foot hk
theorem P22.still (t : P22 w0 w i F c c') {w' : World} (hm : Still w w') : P22 w0 w' i F c c' := ⟨t.prog.still hm, t.ref.still hm, t.apart⟩
theorem P22.drew (t : P22 w0 w i F c c') : P22 w0 w.drew i F c c' := t.still (Still.refl w).toDrew
theorem P22.stepA (t : P22 w0 w i F c c') {w' : World} {rp' rm' : Option Nat} {c2 : Cs22} (C : Cj (kJ w0 i.gj i.g i.b) w' F ty_cache_Cache i.gc rp' rm' c2.j c2.l) (m : Mod i.A w w') (n : NewOr i.rp rp' w) (n' : NewOr i.rm rm' w) : P22 w0 w' { i with rp := rp', rm := rm' } F c2 c' := by
  refine ⟨C, t.ref.mod m (fun k hb ha => t.apart k ha hb) (fun k hF ha => (t.prog.fl k hF).2 ha), fun k ha hb => ?_⟩
  have hb : i.B k := hb
  have hlt := (t.footB hb).2
  rcases ha with e | e | e
  · rcases e with e | e | e | e
    · exact t.apart k (.inl (.inl e)) hb
    · exact t.apart k (.inl (.inr (.inl e))) hb
    · exact t.apart k (.inl (.inr (.inr (.inl e)))) hb
    · rcases n k e with e | e
      · exact t.apart k (.inl (.inr (.inr (.inr e)))) hb
      · omega
  · exact t.apart k (.inr (.inl e)) hb
  · rcases n' k e with e | e
    · exact t.apart k (.inr (.inr e)) hb
    · omega
theorem P22.stepB (t : P22 w0 w i F c c') {w' : World} {rq' rn' : Option Nat} {c2 : Cs22} (C : Cj (kR w0 i.hj i.h i.q) w' F ty_scullionref22_Cache i.hc rq' rn' c2.j c2.l) (m : Mod i.B w w') (n : NewOr i.rq rq' w) (n' : NewOr i.rn rn' w) : P22 w0 w' { i with rq := rq', rn := rn' } F c c2 := by
  refine ⟨t.prog.mod m (fun k ha hb => t.apart k ha hb) (fun k hF hb => (t.ref.fl k hF).2 hb), C, fun k ha hb => ?_⟩
  have ha : i.A k := ha
  have hlt := (t.footA ha).2
  rcases hb with e | e | e
  · rcases e with e | e | e | e
    · exact t.apart k ha (.inl (.inl e))
    · exact t.apart k ha (.inl (.inr (.inl e)))
    · exact t.apart k ha (.inl (.inr (.inr (.inl e))))
    · rcases n k e with e | e
      · exact t.apart k ha (.inl (.inr (.inr (.inr e))))
      · omega
  · exact t.apart k ha (.inr (.inl e))
  · rcases n' k e with e | e
    · exact t.apart k ha (.inr (.inr e))
    · omega
theorem P22.devA (t : P22 w0 w i F c c') {w' : World} {s' : St} (m : Mod (fun n => n = i.g ∨ n = i.b) w w') (d : Dev w' i.g i.b s') : P22 w0 w' i F ⟨⟨s', c.j.l, c.j.k⟩, c.l⟩ c' := by
  have mF : Mod (Foot i.gj i.g i.b i.rp) w w' := m.weaken fun k hk => hk.elim .inl fun h => .inr (.inl h)
  exact t.stepA (c2 := ⟨⟨s', c.j.l, c.j.k⟩, c.l⟩) (t.prog.step (Jr.setDev t.prog.jr m d) mF (NewOr.refl _ _)) (mF.weaken fun _ h => .inl h) (NewOr.refl _ _) (NewOr.refl _ _)
theorem P22.devB (t : P22 w0 w i F c c') {w' : World} {s' : St} (m : Mod (fun n => n = i.h ∨ n = i.q) w w') (d : Ref w' i.h i.q s') : P22 w0 w' i F c ⟨⟨s', c'.j.l, c'.j.k⟩, c'.l⟩ := by
  have mF : Mod (Foot i.hj i.h i.q i.rq) w w' := m.weaken fun k hk => hk.elim .inl fun h => .inr (.inl h)
  exact t.stepB (c2 := ⟨⟨s', c'.j.l, c'.j.k⟩, c'.l⟩) (t.ref.step (Rj.setDev t.ref.jr m d) mF (NewOr.refl _ _)) (mF.weaken fun _ h => .inl h) (NewOr.refl _ _) (NewOr.refl _ _)
theorem P22.stillA (t : P22 w0 w i F c c') (h0 : Still w0 w) {w' : World} (m : Mod i.A w w') : Still w0 w' := t.prog.stays h0 m
theorem P22.stillB (t : P22 w0 w i F c c') (h0 : Still w0 w) {w' : World} (m : Mod i.B w w') : Still w0 w' := t.ref.stays h0 m
theorem P22.modA (i : I22) {w w' : World} (m : Mod (fun n => n = i.g ∨ n = i.b) w w') : Mod i.A w w' := m.weaken fun k hk => .inl (hk.elim .inl fun h => .inr (.inl h))
theorem P22.modB (i : I22) {w w' : World} (m : Mod (fun n => n = i.h ∨ n = i.q) w w') : Mod i.B w w' := m.weaken fun k hk => .inl (hk.elim .inl fun h => .inr (.inl h))
end
def B22 (w0 : World) (g b h q : Nat) (cx rx : Option Addr) (w : World) : Prop := ∃ (i : I22) (F : Nat → Prop) (c : Cs22), i.g = g ∧ i.b = b ∧ i.h = h ∧ i.q = q ∧ cx = some ⟨i.gc, 0, none⟩ ∧ rx = some ⟨i.hc, 0, none⟩ ∧ P22 w0 w i F c c ∧ c.Ok ∧ Still w0 w
theorem opens22 {g b h q : Nat} {s : St} {cx : Ending} (_he : Env w0) (h0 : Still w0 w) (d : Dev w g b s) (r : Ref w h q s) (ok : s.Ok) (lg : w0.heap.size ≤ g ∧ w0.heap.size ≤ b ∧ w0.heap.size ≤ h ∧ w0.heap.size ≤ q) (ap : ∀ k, (k = g ∨ k = b) → ¬ (k = h ∨ k = q)) {R : Ending → World → Prop}
    (hR : ∀ i F w2, i.g = g → i.b = b → i.h = h → i.q = q → P22 w0 w2 i F (openC s) (openC s) → Still w w2 → (cx = .returned (.pointer (some ⟨i.gc, 0, none⟩)) → R (.returned (.pointer (some ⟨i.hc, 0, none⟩))) w2)) {w1 : World} (ho : OpenR (fun gj => kJ w0 gj g b) ty_cache_Cache s w cx w1) :
    Calls Tryz.prog fn_ref22_Open #[.pointer (some ⟨h, 0, none⟩)] w1 R := by
  obtain ⟨gj, gc, rp, rm, Fa, rfl, s1, hgj, hgc, hrp, hrm, hFa, C1⟩ := ho
  have dl := d.top.lt
  have dl2 := d.bytes.lt
  have rl := r.lt
  refine (rcopen_spec (h0.trans s1) (r.mod s1 (fun h => h) (fun h => h)) ok lg.2.2.1 lg.2.2.2).mono ?_
  rintro _ w2 ⟨hj, hc, rq, rn, Fb, rfl, s2, hhj, hhc, hrq, hrn, hFb, C2⟩
  have z1 := s1.size
  have z2 := s2.size
  have fA : ∀ {k}, CF (kJ w0 gj g b) gc rp rm k → w0.heap.size ≤ k ∧ k < w1.heap.size := fun hk => C1.foot hk
  have fB : ∀ {k}, CF (kR w0 hj h q) hc rq rn k → (k = h ∨ k = q) ∨ w1.heap.size ≤ k := by
    rintro k (e | e | e)
    · rcases e with e | e | e | e
      · exact .inl (.inl e)
      · exact .inl (.inr e)
      · exact .inr (by have : k = hj := e; omega)
      · rcases hrq k e with e | e
        · cases e
        · exact .inr e
    · exact .inr (by omega)
    · rcases hrn k e with e | e
      · cases e
      · exact .inr e
  have fA2 : ∀ {k}, CF (kJ w0 gj g b) gc rp rm k → (k = g ∨ k = b) ∨ w.heap.size ≤ k := by
    rintro k (e | e | e)
    · rcases e with e | e | e | e
      · exact .inl (.inl e)
      · exact .inl (.inr e)
      · exact .inr (by have : k = gj := e; omega)
      · rcases hrp k e with e | e
        · cases e
        · exact .inr e
    · exact .inr (by omega)
    · rcases hrm k e with e | e
      · cases e
      · exact .inr e
  refine hR ⟨g, b, gj, gc, rp, rm, h, q, hj, hc, rq, rn⟩ (fun k => Fa k ∨ Fb k) w2 rfl rfl rfl rfl ⟨(C1.still s2).widen (fun k h => .inl h) fun k hk => ?_, C2.widen (fun k h => .inr h) fun k hk => ?_, fun k ha hb => ?_⟩ (s1.trans s2) rfl
  · rcases hk with hk | hk
    · exact ⟨by have := (C1.fl k hk).1; omega, (C1.fl k hk).2⟩
    · refine ⟨(C2.fl k hk).1, fun ha => ?_⟩
      have := fA ha
      rcases hFb k hk with e | e <;> omega
  · rcases hk with hk | hk
    · have h1 := (C1.fl k hk).1
      refine ⟨by omega, fun hb => ?_⟩
      have h3 := (C2.foot hb).1
      rcases hFa k hk with e | e
      · omega
      · rcases fB hb with (e2 | e2) | e2
        · have := rl.1; omega
        · have := rl.2; omega
        · omega
    · exact C2.fl k hk
  · have h1 := fA ha
    rcases fB hb with e | e
    · rcases fA2 ha with e2 | e2
      · exact ap k e2 e
      · have := rl.1
        have := rl.2
        rcases e with rfl | rfl <;> omega
    · omega
theorem same22 {i : I22} {F : Nat → Prop} {c : Cs22} (t : P22 w0 w i F c c) (ok : c.Ok) {R : Ending → World → Prop} (hR : ∀ w', Still w w' → R (.returned (.bool true)) w') :
    Calls Tryz.prog fn_cache_Cache_Memos #[.pointer (some ⟨i.gc, 0, none⟩)] w (fun e w1 => ∃ (r : Option Addr) (n D : Nat), e = .returned (.slice r n D) ∧ Calls Tryz.prog fn_ref22_Cache_Memos #[.pointer (some ⟨i.hc, 0, none⟩)] w1 (fun e2 w2 => ∃ (r2 : Option Addr) (n2 D2 : Nat), e2 = .returned (.slice r2 n2 D2) ∧ Calls Tryz.prog fn_ref19_SameAll #[.slice r n D, .slice r2 n2 D2] w2 R)) := by
  have hl := ok.few
  refine (cmemos_spec t.prog (by omega)).mono ?_
  rintro _ w1 ⟨q, D, rfl, hq, s1⟩
  refine ⟨q, _, D, rfl, (rmemos_spec (t.ref.still s1) (by omega)).mono ?_⟩
  rintro _ w2 ⟨q2, D2, rfl, hq2, s2⟩
  refine ⟨q2, _, D2, rfl, (sameAll_spec (hq.still s2) hq2 (by omega) ok.m).mono ?_⟩
  rintro _ w3 ⟨rfl, s3⟩
  rw [decide_eq_true rfl]
  exact hR w3 ((s1.trans s2).trans s3)
def Arg22 (w : World) (la : List Mo) (v : Value) : Prop := moE.At w (fun k => k < w.heap.size) la v ∧ (∀ m ∈ la, m.Sz) ∧ la.length ≤ 140737488355328
theorem Arg22.at {la : List Mo} {v : Value} (h : Arg22 w la v) {w' : World} (hm : Still w w') : moE.At w' (fun k => k < w.heap.size) la v := h.1.still hm
def Acts22 (w : World) (p : Option Addr) (n : Nat) : Prop := ∀ k, k < n → ∃ (a : Addr) (wh nn mk : Int) (la : List Mo) (pl : Option Addr) (cl : Nat), p = some a ∧ w.cell? (a.add (k * 4)) = some (.int .u8 wh) ∧ w.cell? ((a.add (k * 4)).add 1) = some (.int .u8 nn) ∧
  w.cell? ((a.add (k * 4)).add 2) = some (.slice pl la.length cl) ∧ w.cell? ((a.add (k * 4)).add 3) = some (.int .u64 mk) ∧ 0 ≤ nn ∧ nn < 256 ∧ 0 ≤ mk ∧ mk < 18446744073709551616 ∧ Arg22 w la (.slice pl la.length cl)
theorem Cs22.Ok.dev {c : Cs22} (ok : c.Ok) {s : St} (hs : s.Ok) (hn : s.n = c.j.s.n) : (⟨⟨s, c.j.l, c.j.k⟩, c.l⟩ : Cs22).Ok := ⟨⟨hs, by have := ok.j.k; dsimp only; omega, ok.j.l⟩, ok.n, ok.m⟩
theorem u8_tmod {n m : Int} (h0 : 0 ≤ n) (h1 : n < 256) (hm : 0 < m) (hm2 : m ≤ 256) : ∃ k : Nat, IntKind.i64.wrap (1 + Int.tmod (IntKind.i64.wrap n) m) = (k : Int) ∧ 1 ≤ k ∧ k ≤ 256 := by
  have hq : 0 ≤ Int.tmod n m ∧ Int.tmod n m < m := ⟨Int.tmod_nonneg _ h0, Int.tmod_lt_of_pos _ hm⟩
  refine ⟨1 + (Int.tmod n m).toNat, ?_, by omega, by omega⟩
  rw [wrap_i64 (n := n) (by omega) (by omega), wrap_i64 (by omega) (by omega)]
  omega
set_option maxRecDepth 10000 in
set_option maxHeartbeats 1000000 in
theorem CachePlays_spec (he : Env w) (size : Int) (h0 : 0 ≤ size) (h1 : size < 256) {p : Option Addr} {L C : Nat} (ha : Acts22 w p L) : Calls Tryz.prog fn_law22_CachePlays #[.int .u8 size, .slice p L C] w (fun e w' => e = .returned (.bool true) ∧ Still w w') := by
  refine law22_CachePlays_calls _ _ _ _ _ _ ?_
  refine (awake22_spec he (Still.refl w)).mono ?_
  rintro _ w1 ⟨rfl, s1⟩
  refine .inl ⟨_, rfl, bsel_of (fun h => by cases h) (fun _ => ⟨by decide, ?_⟩)⟩
  obtain ⟨n, e1, hn1, hn2⟩ := u8_tmod h0 h1 (m := 60) (by decide) (by decide)
  rw [e1]
  have ok0 := new_ok hn1 (show n ≤ 4096 by omega)
  refine (device_New_spec (n := (n : Int)) (by omega) (by omega)).mono ?_
  rintro _ w2 ⟨g, b, rfl, m2, hg, hb, d2⟩
  have s2 : Still w1 w2 := m2
  rw [Int.toNat_natCast] at d2
  refine .inl ⟨_, _, rfl, by decide, (ref_New_spec (n := (n : Int)) (by omega) (by omega)).mono ?_⟩
  rintro _ w3 ⟨h, q, rfl, m3, hh, hq, r3⟩
  have s3 : Still w2 w3 := m3
  rw [Int.toNat_natCast] at r3
  have d3 : Dev w3 g b (St.new n) := ⟨d2.top.still s3, d2.bytes.still s3⟩
  have h03 := (s1.trans s2).trans s3
  have z1 := s1.size
  have z2 := s2.size
  have dl := d2.top.lt
  have dl2 := d2.bytes.lt
  refine .inl ⟨_, _, rfl, bsel_of (fun h => by cases h) (fun _ => bsel_of (fun h => by cases h) (fun _ => ?_))⟩
  refine (copen_spec he h03 d3 ok0 (by omega) (by omega)).mono ?_
  intro e w4 ho
  obtain ⟨gj, gc, rp, rm, Fx, rfl, _⟩ := id ho
  refine .inl ⟨_, rfl, opens22 he h03 d3 r3 ok0 ⟨by omega, by omega, by omega, by omega⟩ (fun k hk hx => by omega) ?_ ho⟩
  intro i F w5 eg eb eh eq T s5 ee
  obtain rfl : gc = i.gc := by injection ee with ee; injection ee with ee; injection ee with ee; injection ee
  refine .inl ⟨_, rfl, fun cx rx x w6 => ∃ k : Nat, x = (k : Int) ∧ B22 w g b h q cx rx w6, fun _ _ x _ => 10 - x.toNat, ⟨0, rfl, i, F, _, eg, eb, eh, eq, rfl, rfl, T, openC_ok ok0, h03.trans s5⟩, ?_⟩
  clear ho eg eb eh eq T s5 hg hb hh hq m2 d2 m3 r3 d3 dl dl2
  rintro _ _ _ _ w6 ⟨k, rfl, i6, F6, c6, rfl, rfl, rfl, rfl, rfl, rfl, T6, ok6, h06⟩
  have fin : Calls Tryz.prog fn_law03_Same #[.pointer (some ⟨i6.g, 0, none⟩), .pointer (some ⟨i6.h, 0, none⟩)] w6 (fun ed w22 => (∃ r19 : Bool, ed = .returned (.bool r19) ∧ ((Ending.returned (.bool r19)) = .returned (.bool true) ∧ Still w w22)) ∨ ∃ ch, ed = .panicked ch ∧ ((Ending.panicked ch) = .returned (.bool true) ∧ Still w w22)) := by
    refine (Same_spec T6.dev T6.rdev ok6.j.s).mono ?_
    rintro _ w8 ⟨rfl, rfl⟩
    exact .inl ⟨_, rfl, rfl, h06⟩
  refine bsel_of (fun hx => bsel_of (fun hx2 => bsel_of (fun _ => ?_) (fun h => by cases h)) (fun _ => bsel_of (fun _ => bsel_of (fun _ => fin) (fun h => by cases h)) (fun h => by cases h))) (fun _ => bsel_of (fun _ => bsel_of (fun _ => fin) (fun h => by cases h)) (fun h => by cases h))
  have hx : k < L := by have := of_decide_eq_true hx; omega
  have hx2 : k < 10 := by have := of_decide_eq_true hx2; omega
  obtain ⟨a, wh, nn, mk, la, pl, cl, rfl, c0, c1, c2, c3, g1, g2, g3, g4, harg⟩ := ha k hx
  have ec : Int.toNat (k : Int) * 4 = k * 4 := by rw [Int.toNat_natCast]
  have exA : ¬ i6.A w6.heap.size := fun h => by have := (T6.footA h).2; omega
  have exB : ¬ i6.B w6.heap.size := fun h => by have := (T6.footB h).2; omega
  have hw : IntKind.i64.wrap nn = nn := wrap_i64 (by omega) (by omega)
  refine ⟨fun cx1 r1 w18 => B22 w i6.g i6.b i6.h i6.q cx1 r1 w18, ⟨by omega, by omega, wh, nn, pl, _, cl, mk, by rw [ec]; exact h06.cell c0, by rw [ec]; exact h06.cell c1, by rw [ec]; exact h06.cell c2, by rw [ec]; exact h06.cell c3, boxK rfl (by simp [Value.oneCell']) fun w8 r8 s8 z8 => ?_⟩, ?_⟩
  · have T8 := T6.still s8
    have h08 := h06.trans s8
    refine ⟨_, r8.lget rfl, by decide, bsel_of (fun _ => ?_) (fun _ => bsel_of (fun _ => ?_) (fun _ => ?_))⟩
    · refine ⟨_, r8.lget rfl, by decide, _, r8.lget rfl, (device_Limit_spec T8.dev _ _).mono ?_⟩
      rintro _ w9 ⟨rfl, m9, d9⟩
      have T9 := T8.devA m9 d9
      have mA := P22.modA i6 m9
      have r9 := r8.mod mA exA
      refine .inl ⟨rfl, _, r9.lget rfl, by decide, _, r9.lget rfl, (ref_Limit_spec T9.rdev _ _).mono ?_⟩
      rintro _ w10 ⟨rfl, m10, d10⟩
      have T10 := T9.devB m10 d10
      have hl : Int.tmod (IntKind.i64.wrap nn) 20 < 9223372036854775808 := by
        have := Int.tmod_lt_of_pos (IntKind.i64.wrap nn) (show (0 : Int) < 20 by decide)
        omega
      exact .inl ⟨rfl, i6, F6, _, rfl, rfl, rfl, rfl, rfl, rfl, T10, ok6.dev (limit_ok ok6.j.s hl g3 g4) rfl, T9.stillB (T8.stillA h08 mA) (P22.modB i6 m10)⟩
    · refine (device_Restart_spec T8.dev).mono ?_
      rintro _ w11 ⟨rfl, m11, d11⟩
      have T11 := T8.devA m11 d11
      refine .inl ⟨rfl, (ref_Restart_spec T11.rdev).mono ?_⟩
      rintro _ w12 ⟨rfl, m12, d12⟩
      have T12 := T11.devB m12 d12
      have h012 := T11.stillB (T8.stillA h08 (P22.modA i6 m11)) (P22.modB i6 m12)
      have okr := restart_ok ok6.j.s
      have f1 := (T12.footA (.inl (.inl rfl))).1
      have f2 := (T12.footA (.inl (.inr (.inl rfl)))).1
      have f3 := (T12.footB (.inl (.inl rfl))).1
      have f4 := (T12.footB (.inl (.inr (.inl rfl)))).1
      refine .inl ⟨rfl, (copen_spec he h012 T12.dev okr f1 f2).mono ?_⟩
      intro e w13 ho
      obtain ⟨gj, gc, rp, rm, Fx, rfl, _⟩ := id ho
      refine .inl ⟨_, rfl, opens22 he h012 T12.dev T12.rdev okr ⟨f1, f2, f3, f4⟩ (fun k hk hx => T12.apart k (hk.elim (fun h => .inl (.inl h)) fun h => .inl (.inr (.inl h))) (hx.elim (fun h => .inl (.inl h)) fun h => .inl (.inr (.inl h)))) ?_ ho⟩
      intro i' F' w14 eg eb eh eq T14 s14 ee
      obtain rfl : gc = i'.gc := by injection ee with ee; injection ee with ee; injection ee with ee; injection ee
      exact .inl ⟨_, rfl, i', F', _, eg, eb, eh, eq, rfl, rfl, T14, openC_ok okr, h012.trans s14⟩
    · refine ⟨_, _, _, r8.lget rfl, (right_spec (harg.at h08) harg.2.1 harg.2.2).mono ?_⟩
      rintro _ w15 ⟨⟨rb, rfl, hrb⟩, s15⟩
      have T15 := T8.still s15
      have h015 := h08.trans s15
      have r15 := r8.still s15
      refine .inl ⟨_, rfl, bsel_of (fun _ => ⟨rfl, h015⟩) (fun hb => ?_)⟩
      have hR := hrb (by simpa using hb)
      have hfew : ∀ m ∈ la, m.Few := fun m hm => hR.few hm
      have hlen : la.length ≤ 1000 := by have := hR.length; omega
      refine ⟨_, _, _, r15.lget rfl, (cadd_spec he h015 T15.prog ok6 (harg.at h015) T15.prog.f0 hfew hlen).mono ?_⟩
      rintro _ w16 ⟨rfl, rp', rm', C16, m16, n16, n16'⟩
      have T16 := T15.stepA C16 m16 n16 n16'
      have h016 := T15.stillA h015 m16
      have r16 := r15.mod m16 exA
      refine .inl ⟨_, _, rfl, _, _, _, r16.lget rfl, (radd_spec h016 T16.ref ok6 (harg.at h016) T16.ref.f0 hfew hlen).mono ?_⟩
      rintro _ w17 ⟨rfl, rq', rn', C17, m17, n17, n17'⟩
      have T17 := T16.stepB C17 m17 n17 n17'
      have h017 := T16.stillB h016 m17
      refine .inl ⟨_, _, rfl, ?_⟩
      rw [decide_eq_true rfl, decide_eq_true rfl]
      exact bsel_of (fun h => by cases h) (fun _ => bsel_of (fun h => by cases h) (fun _ => ⟨{ i6 with rp := rp', rm := rm', rq := rq', rn := rn' }, F6, _, rfl, rfl, rfl, rfl, rfl, rfl, T17, addC_ok la 0 ok6 fun m hm => (hfew m hm).ok, h017⟩))
  · rintro _ _ _ w18 ⟨i7, F7, c7, eg, eb, eh, eq, rfl, rfl, T7, ok7, h018⟩
    refine bsel_of (fun h => by cases h) (fun _ => ?_)
    refine (same22 T7 ok7 (R := fun e w' => e = .returned (.bool true) ∧ Still w18 w') fun w' hw' => ⟨rfl, hw'⟩).mono ?_
    rintro _ w19 ⟨r, n', D, rfl, h2⟩
    refine .inl ⟨_, _, _, rfl, h2.mono ?_⟩
    rintro _ w20 ⟨r2, n2, D2, rfl, h3⟩
    refine .inl ⟨_, _, _, rfl, h3.mono ?_⟩
    rintro _ w21 ⟨rfl, s21⟩
    refine .inl ⟨_, rfl, bsel_of (fun h => by cases h) (fun _ => ?_)⟩
    rw [wrap_i64 (by omega) (by omega)]
    exact ⟨⟨k + 1, by omega, i7, F7, c7, eg, eb, eh, eq, rfl, rfl, T7.still s21, ok7, h018.trans s21⟩, by first | omega | (dsimp only; omega)⟩
set_option maxRecDepth 10000 in
set_option maxHeartbeats 1000000 in
theorem CacheOdd_spec (he : Env w) {p : Option Addr} {L C : Nat} {ls : List Txt} (hl : StrsAt w p L ls) {la : List Mo} {pm : Option Addr} {nm cm : Nat} (harg : Arg22 w la (.slice pm nm cm)) : Calls Tryz.prog fn_law22_CacheOdd #[.slice p L C, .slice pm nm cm] w (fun e w' => e = .returned (.bool true) ∧ Still w w') := by
  refine law22_CacheOdd_calls _ _ _ _ _ _ _ _ ?_
  refine (awake22_spec he (Still.refl w)).mono ?_
  rintro _ w1 ⟨rfl, s1⟩
  refine .inl ⟨_, rfl, bsel_of (fun h => by cases h) (fun _ => ?_)⟩
  have ok0 := new_ok (n := 40) (by decide) (by decide)
  refine (device_New_spec (n := 40) (by decide) (by decide)).mono ?_
  rintro _ w2 ⟨g, b, rfl, m2, hg, hb, d2⟩
  have s2 : Still w1 w2 := m2
  refine .inl ⟨_, _, rfl, (ref_New_spec (n := 40) (by decide) (by decide)).mono ?_⟩
  rintro _ w3 ⟨h, q, rfl, m3, hh, hq, r3⟩
  have s3 : Still w2 w3 := m3
  have d3 : Dev w3 g b (St.new 40) := ⟨d2.top.still s3, d2.bytes.still s3⟩
  have r3 : Ref w3 h q (St.new 40) := r3
  have h03 := (s1.trans s2).trans s3
  have z1 := s1.size
  have z2 := s2.size
  have dl := d2.top.lt
  have dl2 := d2.bytes.lt
  refine .inl ⟨_, _, rfl, bsel_of (fun h => by cases h) (fun _ => bsel_of (fun h => by cases h) (fun _ => ?_))⟩
  refine (right_spec (harg.at h03) harg.2.1 harg.2.2).mono ?_
  rintro _ w4 ⟨⟨rb, rfl, hrb⟩, s4⟩
  have h04 := h03.trans s4
  refine .inl ⟨_, rfl, bsel_of (fun _ => bsel_of (fun _ => bsel_of (fun _ => ⟨rfl, h04⟩) (fun h => by cases h)) (fun h => by cases h)) (fun hb' => ?_)⟩
  have hR := hrb (by simpa using hb')
  have hfew : ∀ m ∈ la, m.Few := fun m hm => hR.few hm
  have hlen : la.length ≤ 1000 := by have := hR.length; omega
  have d4 : Dev w4 g b (St.new 40) := d3.mod s4 (fun h => h) (fun h => h)
  have r4 : Ref w4 h q (St.new 40) := r3.mod s4 (fun h => h) (fun h => h)
  have ne : g ≠ h ∧ g ≠ q ∧ b ≠ h ∧ b ≠ q := by omega
  have lo : w.heap.size ≤ g ∧ w.heap.size ≤ b ∧ w.heap.size ≤ h ∧ w.heap.size ≤ q := by omega
  refine ⟨fun x w5 => ∃ (k : Nat) (s : St), x = (k : Int) ∧ k ≤ 12 ∧ s.Ok ∧ Dev w5 g b s ∧ Ref w5 h q s ∧ Still w w5, fun x _ => 12 - x.toNat, ⟨0, _, rfl, by decide, ok0, d4, r4, h04⟩, ?_⟩
  clear hg hb hh hq m2 d2 m3 r3 d3 dl dl2 d4 r4
  rintro _ _ w5 ⟨k, s, rfl, hk12, ok, d5, r5, h05⟩
  refine ⟨fun w6 => (k < L ∧ k < 12) ∧ w6 = w5, ⟨fun x w6 => (x = true → k < L ∧ k < 12) ∧ w6 = w5, bsel_of (fun hx => ⟨fun h => ⟨by have := of_decide_eq_true hx; omega, by have := of_decide_eq_true h; omega⟩, rfl⟩) (fun _ => ⟨fun h => (by cases h), rfl⟩), ?_⟩, ?_⟩
  · rintro x _ w6 ⟨hx, rfl⟩
    refine bsel_of (fun h => ⟨hx h, rfl⟩) (fun _ => ?_)
    refine (copen_spec he h05 d5 ok lo.1 lo.2.1).mono ?_
    intro e w7 ho
    obtain ⟨gj, gc, rp, rm, Fx, rfl, _⟩ := id ho
    refine .inl ⟨_, rfl, opens22 he h05 d5 r5 ok lo (fun k hk hx => by omega) ?_ ho⟩
    intro i F w8 eg eb eh eq T s8 ee
    obtain rfl : gc = i.gc := by injection ee with ee; injection ee with ee; injection ee with ee; injection ee
    have h08 := h05.trans s8
    have okc := openC_ok ok
    refine .inl ⟨_, rfl, bsel_of (fun h => by cases h) (fun _ => ?_)⟩
    refine (cadd_spec he h08 T.prog okc (harg.at h08) T.prog.f0 hfew hlen).mono ?_
    rintro _ w9 ⟨rfl, rp', rm', C9, m9, n9, n9'⟩
    have T9 := T.stepA C9 m9 n9 n9'
    have h09 := T.stillA h08 m9
    refine .inl ⟨_, _, rfl, (radd_spec h09 T9.ref okc (harg.at h09) T9.ref.f0 hfew hlen).mono ?_⟩
    rintro _ w10 ⟨rfl, rq', rn', C10, m10, n10, n10'⟩
    have T10 := T9.stepB C10 m10 n10 n10'
    have h010 := T9.stillB h09 m10
    refine .inl ⟨_, _, rfl, bsel_of (fun _ => bsel_of (fun _ => bsel_of (fun _ => ?_) (fun h => ?_)) (fun h => ?_)) (fun h => by cases h)⟩
    · refine (same22 T10 (addC_ok la 0 okc fun m hm => (hfew m hm).ok) (R := fun e w' => e = .returned (.bool true) ∧ Still w10 w') fun w' hw' => ⟨rfl, hw'⟩).mono ?_
      rintro _ w11 ⟨r, n', D, rfl, h2⟩
      refine .inl ⟨_, _, _, rfl, h2.mono ?_⟩
      rintro _ w12 ⟨r2, n2, D2, rfl, h3⟩
      refine .inl ⟨_, _, _, rfl, h3.mono ?_⟩
      rintro _ w13 ⟨rfl, s13⟩
      exact .inl ⟨_, rfl, rfl, h010.trans s13⟩
    · rw [decide_eq_true rfl] at h; cases h
    · rw [decide_eq_true rfl] at h; cases h
  · rintro _ w14 ⟨⟨hkL, hk⟩, rfl⟩
    obtain ⟨a, rfl, hc⟩ := hl.get hkL
    have ec : Int.toNat (k : Int) * 1 = k := by rw [Int.toNat_natCast]; omega
    generalize ls[k]'(by have := hl.1; omega) = t at hc
    refine ⟨by omega, by omega, t, by rw [ec]; exact h05.cell hc, (device_Write_spec d5 ok k t).mono ?_⟩
    rintro _ w15 ⟨rfl, m15, d15⟩
    have h015 : Still w w15 := Mod.trans h05 m15 (fun _ h => h) (fun i hi e => by omega)
    refine .inl ⟨_, rfl, by omega, by omega, t, by rw [ec]; exact h015.cell hc, (ref_Write_spec (r5.mod m15 (by omega) (by omega)) ok k t).mono ?_⟩
    rintro _ w16 ⟨rfl, m16, d16⟩
    have h016 : Still w w16 := Mod.trans h015 m16 (fun _ h => h) (fun i hi e => by omega)
    refine .inl ⟨_, rfl, ?_⟩
    rw [wrap_i64 (by omega) (by omega)]
    exact ⟨⟨k + 1, _, by omega, by omega, (write_ok ok k t).1, d15.mod m16 (by omega) (by omega), d16, h016⟩, by first | omega | (dsimp only; omega)⟩
theorem addC_keep : ∀ (la : List Mo) (c : Cs22) (n : Nat), Tidy c.j → c.j.s.e = true → (∀ m ∈ la, m.Few) → c.j.l.filterMap mdec = c.l →
    Tidy (addC la c n).2.2.j ∧ (addC la c n).2.2.j.s.e = true ∧ (addC la c n).2.2.j.l.filterMap mdec = (addC la c n).2.2.l
  | [], c, n, h, he, _, hk => ⟨h, he, hk⟩
  | m :: r, c, n, h, he, hf, hk => by
    have hm := hf m (List.mem_cons_self ..)
    have hl := hm.len
    by_cases hfit : c.j.k + cnt (menc m).length < c.j.s.n
    · obtain ⟨a1, a2, a3, a4, a5, a6⟩ := h.append he (t := menc m) (by omega) hfit
      simp only [addC]
      rw [if_pos a1]
      refine addC_keep r _ _ a2 a6 (fun x hx => hf x (List.mem_cons_of_mem _ hx)) ?_
      dsimp only
      rw [a3, List.filterMap_append, hk, List.filterMap_cons, mdec_menc hm]
      rfl
    · have e : c.j.append (menc m) = (12, c.j) := by unfold Js.append; rw [if_neg (by omega), if_pos (by omega)]
      simp only [addC]
      rw [e, if_neg (show ¬ (12 : Int) = 0 by decide)]
      exact ⟨h, he, hk⟩
theorem openC_tidy {c : Cs22} (h : Tidy c.j) (hk : c.j.l.filterMap mdec = c.l) : openC c.j.s = c := by
  unfold openC
  rw [h.opened, hk]
theorem P22.widen {i : I22} {F G : Nat → Prop} {c c' : Cs22} (t : P22 w0 w i F c c') (hG : ∀ k, G k → k < w.heap.size ∧ ¬ i.A k ∧ ¬ i.B k) : P22 w0 w i (fun k => F k ∨ G k) c c' :=
  ⟨t.prog.widen (fun k h => .inl h) fun k h => h.elim (fun h => t.prog.fl k h) fun h => ⟨(hG k h).1, (hG k h).2.1⟩, t.ref.widen (fun k h => .inl h) fun k h => h.elim (fun h => t.ref.fl k h) fun h => ⟨(hG k h).1, (hG k h).2.2⟩, t.apart⟩
def moK (k v : Nat) : Mo := ⟨[107], [], [], (k : Int), List.replicate v 0, []⟩
theorem moK_few {k v : Nat} (hk : k < 12) (hv : v < 256) : (moK k v).Few := ⟨by show (0 : Int) ≤ (k : Int); omega, by show (k : Int) ≤ 255; omega, by
  have : (moK k v).wt = 21 + v := by simp [Mo.wt, moK, tw]
  omega⟩
set_option maxRecDepth 10000 in
set_option maxHeartbeats 1000000 in
theorem CacheFull_spec (he : Env w) (size : Int) (h0 : 0 ≤ size) (h1 : size < 256) {p : Option Addr} {L C : Nat} {vs : List Nat} (hl : U8At w p L vs) : Calls Tryz.prog fn_law22_CacheFull #[.int .u8 size, .slice p L C] w (fun e w' => e = .returned (.bool true) ∧ Still w w') := by
  refine law22_CacheFull_calls _ _ _ _ _ _ ?_
  refine (awake22_spec he (Still.refl w)).mono ?_
  rintro _ w1 ⟨rfl, s1⟩
  refine .inl ⟨_, rfl, bsel_of (fun h => by cases h) (fun _ => ⟨by decide, ?_⟩)⟩
  obtain ⟨n, e1, hn1, hn2⟩ := u8_tmod h0 h1 (m := 30) (by decide) (by decide)
  rw [e1]
  have ok0 := new_ok hn1 (show n ≤ 4096 by omega)
  have T0 := new_tidy hn1 (show n ≤ 4096 by omega)
  refine (device_New_spec (n := (n : Int)) (by omega) (by omega)).mono ?_
  rintro _ w2 ⟨g, b, rfl, m2, hg, hb, d2⟩
  have s2 : Still w1 w2 := m2
  rw [Int.toNat_natCast] at d2
  refine .inl ⟨_, _, rfl, by decide, (ref_New_spec (n := (n : Int)) (by omega) (by omega)).mono ?_⟩
  rintro _ w3 ⟨h, q, rfl, m3, hh, hq, r3⟩
  have s3 : Still w2 w3 := m3
  rw [Int.toNat_natCast] at r3
  have d3 : Dev w3 g b (St.new n) := ⟨d2.top.still s3, d2.bytes.still s3⟩
  have h03 := (s1.trans s2).trans s3
  have z1 := s1.size
  have z2 := s2.size
  have dl := d2.top.lt
  have dl2 := d2.bytes.lt
  refine .inl ⟨_, _, rfl, bsel_of (fun h => by cases h) (fun _ => bsel_of (fun h => by cases h) (fun _ => ?_))⟩
  refine (copen_spec he h03 d3 ok0 (by omega) (by omega)).mono ?_
  intro e w4 ho
  obtain ⟨gj, gc, rp, rm, Fx, rfl, _⟩ := id ho
  refine .inl ⟨_, rfl, opens22 he h03 d3 r3 ok0 ⟨by omega, by omega, by omega, by omega⟩ (fun k hk hx => by omega) ?_ ho⟩
  intro i F w5 eg eb eh eq T5 s5 ee
  obtain rfl : gc = i.gc := by injection ee with ee; injection ee with ee; injection ee with ee; injection ee
  have h05 := h03.trans s5
  rw [openC_new n (by omega)] at T5
  have ok5 : (⟨⟨St.new n, [], 0⟩, []⟩ : Cs22).Ok := ⟨T0.ok, Nat.le_refl _, fun x hx => by cases hx⟩
  have lo : w.heap.size ≤ g ∧ w.heap.size ≤ b := by omega
  refine .inl ⟨_, rfl, fun m1 mL mC x w6 => ∃ (k : Nat) (acc : List Mo), x = (k : Int) ∧ k ≤ 12 ∧ mL = acc.length ∧ acc.length = k ∧ (∀ m ∈ acc, m.Few) ∧ moE.Out w6 w5.heap.size ty_api_Memo acc (.slice m1 mL mC) ∧ Still w5 w6, fun _ _ _ x _ => 12 - x.toNat, ⟨0, [], rfl, by decide, rfl, rfl, (fun m hm => by cases hm), Enc.Out.nil _ _ _ _, Still.refl _⟩, ?_⟩
  clear ho hg hb hh hq m2 d2 m3 r3 d3 dl dl2
  rintro m1 _ mC _ _ w6 ⟨k, acc, rfl, hk12, rfl, hacc, hfew, o6, s6⟩
  have h06 := h05.trans s6
  refine ⟨fun w7 => (k < L ∧ k < 12) ∧ w7 = w6, ⟨fun x w7 => (x = true → k < L ∧ k < 12) ∧ w7 = w6, bsel_of (fun hx => ⟨fun h => ⟨by have := of_decide_eq_true hx; omega, by have := of_decide_eq_true h; omega⟩, rfl⟩) (fun _ => ⟨fun h => (by cases h), rfl⟩), ?_⟩, ?_⟩
  · rintro x _ w7 ⟨hx, rfl⟩
    refine bsel_of (fun h => ⟨hx h, rfl⟩) (fun _ => bsel_of (fun h => by cases h) (fun _ => ?_))
    have T7 := (T5.still s6).widen (G := fun k => w5.heap.size ≤ k ∧ k < w7.heap.size) fun k hk => ⟨hk.2, fun ha => by have := (T5.footA ha).2; omega, fun hb => by have := (T5.footB hb).2; omega⟩
    have hla := o6.at (by decide)
    have hlen : acc.length ≤ 1000 := by omega
    refine (cadd_spec he h06 T7.prog ok5 hla (fun k h => .inr h) hfew hlen).mono ?_
    rintro _ w8 ⟨rfl, rp', rm', C8, m8, n8, n8'⟩
    have T8 := T7.stepA C8 m8 n8 n8'
    have h08 := T7.stillA h06 m8
    have hla8 := hla.mod m8 (fun k hk ha => by have := (T5.footA ha).2; omega)
    refine .inl ⟨_, _, rfl, (radd_spec h08 T8.ref ok5 hla8 (fun k h => .inr h) hfew hlen).mono ?_⟩
    rintro _ w9 ⟨rfl, rq', rn', C9, m9, n9, n9'⟩
    have T9 := T8.stepB C9 m9 n9 n9'
    have h09 := T8.stillB h08 m9
    have okE := addC_ok acc 0 ok5 fun m hm => (hfew m hm).ok
    obtain ⟨k1, k2, k3⟩ := addC_keep acc ⟨⟨St.new n, [], 0⟩, []⟩ 0 T0 rfl hfew rfl
    have eop := openC_tidy k1 k3
    generalize addC acc ⟨⟨St.new n, [], 0⟩, []⟩ 0 = r at *
    subst eg eb
    refine .inl ⟨_, _, rfl, (copen_spec he h09 T9.dev k1.ok.s lo.1 lo.2).mono ?_⟩
    rintro _ w10 ⟨gj2, gc2, rp2, rm2, F2, rfl, s10, _, _, _, _, _, Co⟩
    rw [eop] at Co
    have T10 := T9.still s10
    have h010 := h09.trans s10
    refine .inl ⟨_, rfl, bsel_of (fun _ => bsel_of (fun _ => bsel_of (fun _ => bsel_of (fun _ => ?_) (fun h => by cases h)) (fun h => by rw [decide_eq_true rfl] at h; cases h)) (fun h => by rw [decide_eq_true rfl] at h; cases h)) (fun h => by cases h)⟩
    refine (same22 T10 okE (R := fun e w' => e = .returned (.bool true) ∧ Still w10 w') fun w' hw' => ⟨rfl, hw'⟩).mono ?_
    rintro _ w11 ⟨r1, n', D, rfl, h2⟩
    refine .inl ⟨_, _, _, rfl, h2.mono ?_⟩
    rintro _ w12 ⟨r2, n2, D2, rfl, h3⟩
    refine .inl ⟨_, _, _, rfl, h3.mono ?_⟩
    rintro _ w13 ⟨rfl, s13⟩
    refine .inl ⟨_, rfl, bsel_of (fun _ => ?_) (fun h => by cases h)⟩
    have hl5 := okE.few
    refine (cmemos_spec (Co.still s13) (by omega)).mono ?_
    rintro _ w14 ⟨q1, D3, rfl, hq1, s14⟩
    refine .inl ⟨_, _, _, rfl, (rmemos_spec ((T10.ref.still s13).still s14) (by omega)).mono ?_⟩
    rintro _ w15 ⟨q2, D4, rfl, hq2, s15⟩
    refine .inl ⟨_, _, _, rfl, (sameAll_spec (hq1.still s15) hq2 (by omega) okE.m).mono ?_⟩
    rintro _ w16 ⟨rfl, s16⟩
    exact .inl ⟨_, rfl, by rw [decide_eq_true rfl], (((h010.trans s13).trans s14).trans s15).trans s16⟩
  · rintro _ w17 ⟨⟨hkL, hk⟩, rfl⟩
    obtain ⟨a, v, rfl, _, hv, hc⟩ := hl.get hkL
    have ec : Int.toNat (k : Int) * 1 = k := by rw [Int.toNat_natCast]; omega
    have ew : IntKind.i64.wrap (v : Int) = v := wrap_i64 (by omega) (by omega)
    refine ⟨by omega, by omega, _, by rw [ec]; exact h06.cell hc, ?_⟩
    rw [ew]
    refine ⟨by omega, by omega, by omega, by omega, ?_⟩
    rw [madeCells_zero _ (by intro v hv; simpa using hv) (by simp), Int.toNat_natCast, Nat.mul_one]
    refine allocK fun w18 r18 s18 z18 => ⟨List.replicate v 0, ⟨by simp, fun _ => ⟨_, rfl, fun n u hu => ?_⟩⟩, ?_⟩
    · have hn : n < v := by have := (List.getElem?_eq_some_iff.1 hu).1; simpa using this
      rw [add_row, Nat.zero_add]
      refine r18.lget ?_
      rw [cellsF_get hn]
      obtain rfl := (List.mem_replicate.1 (List.mem_of_getElem? hu)).2
      rfl
    have o18 := o6.still s18
    have hE : moE.E w18 (fun j => w5.heap.size ≤ j ∧ j < w18.heap.size ∧ (Value.slice m1 acc.length mC).ownBlock ≠ some j) (moK k v) (moC (moK k v) (.slice none 0 0) (.slice none 0 0)) := ⟨_, _, rfl, Enc.At.nil _ _ _ _ _, Enc.At.nil _ _ _ _ _⟩
    have s58 := s6.trans s18
    refine o18.push s58.size hE (by omega) (by omega) fun p' c' w20 o20 m20 => ?_
    rw [wrap_i64 (by omega) (by omega)]
    obtain ⟨_, _, _, eo, own, _⟩ := o18
    injection eo with eo1 _ eo3
    subst eo1 eo3
    refine ⟨⟨k + 1, _, by omega, by omega, by simp, by simp [hacc], fun m hm => ?_, o20, s58.own own (Nat.le_refl _) m20⟩, by first | omega | (dsimp only; omega)⟩
    rcases List.mem_append.1 hm with hm | hm
    · exact hfew m hm
    · rw [List.mem_singleton.1 hm]
      exact moK_few hk hv
theorem Tidy.appended {j : Js} (h : Tidy j) {t : Txt} (ht : t.length ≤ 100000) (hf : j.k + cnt t.length < j.s.n) (e : (j.append t).1 = 0) : Tidy (j.append t).2 ∧ (j.append t).2.l = j.l ++ [t] ∧ (j.append t).2.k = j.k + 1 + cnt t.length ∧ (j.append t).2.s.n = j.s.n := by
  obtain ⟨a1, a2, a3⟩ := append_ofs ht hf
  have e1 := a1.symm.trans e
  obtain ⟨c1, c2, _⟩ := append_crash h.ok.len ht hf h.ch
  obtain ⟨l1, l2⟩ := a3 e1
  obtain ⟨g1, g2⟩ := c2 e1
  refine ⟨⟨(Js.append_ok h.ok t).1, ?_, ?_⟩, l1, l2, ?_⟩
  · rw [a2, l1, l2]; exact g1
  · rw [a2, l2]; exact g2
  · rw [a2]; exact c1
theorem Tidy.restarted {j : Js} (h : Tidy j) : Tidy ⟨j.s.restart, j.l, j.k⟩ := ⟨⟨restart_ok h.ok.s, h.ok.k, h.ok.l⟩, Ch.far (s := j.s) (s' := j.s.restart) rfl h.ch fun _ _ => rfl, h.st⟩
theorem addC_torn : ∀ (la : List Mo) (c : Cs22) (n0 : Nat), Tidy c.j → c.j.l.filterMap mdec = c.l → (∀ m ∈ la, m.Few) → c.j.k + secs la ≤ c.j.s.n →
    ∃ n i, (addC la c n0).1 = n0 + n ∧ n ≤ la.length ∧ ((addC la c n0).2.1 = 0 → n = la.length) ∧ (i = n ∨ i = n + 1) ∧ i ≤ la.length ∧ (openC (addC la c n0).2.2.j.s.restart).l = c.l ++ la.take i ∧ (addC la c n0).2.2.j.s.Ok
  | [], c, n0, h, hk, _, _ => ⟨0, 0, rfl, Nat.le_refl _, fun _ => rfl, .inl rfl, Nat.le_refl _, by
      show (Js.opened c.j.s.restart).l.filterMap mdec = _
      rw [h.restarted.opened]
      show c.j.l.filterMap mdec = _
      rw [hk]
      simp, h.ok.s⟩
  | m :: r, c, n0, h, hk, hf, hs => by
    rw [secs_cons] at hs
    have hm := hf m (List.mem_cons_self ..)
    have hl := hm.len
    have ht : (menc m).length ≤ 100000 := by omega
    have hfit : c.j.k + cnt (menc m).length < c.j.s.n := by omega
    by_cases e : (c.j.append (menc m)).1 = 0
    · obtain ⟨a1, a2, a3, a4⟩ := h.appended ht hfit e
      obtain ⟨n, i, q1, q2, q3, q4, q5, q6, q7⟩ := addC_torn r ⟨(c.j.append (menc m)).2, c.l ++ [m]⟩ (n0 + 1) a1 (by dsimp only; rw [a2, List.filterMap_append, hk, List.filterMap_cons, mdec_menc hm]; rfl) (fun x hx => hf x (List.mem_cons_of_mem _ hx)) (by dsimp only; omega)
      simp only [addC]
      rw [if_pos e]
      refine ⟨n + 1, i + 1, by omega, by simp only [List.length_cons]; omega, fun h0 => by have := q3 h0; simp only [List.length_cons]; omega, by omega, by simp only [List.length_cons]; omega, ?_, q7⟩
      rw [q6]
      simp
    · simp only [addC]
      rw [if_neg e]
      obtain ⟨l', k', e1, e2, e3, e4, T, e6⟩ := h.torn ht hfit
      have hop : (openC (c.j.append (menc m)).2.s.restart).l = l'.filterMap mdec := by
        show (Js.opened (c.j.append (menc m)).2.s.restart).l.filterMap mdec = _
        rw [e4]
      rcases e1 with rfl | rfl
      · exact ⟨0, 0, rfl, Nat.zero_le _, fun h0 => absurd h0 e, .inl rfl, Nat.zero_le _, by rw [hop, hk]; simp, (Js.append_ok h.ok _).1.s⟩
      · refine ⟨0, 1, rfl, Nat.zero_le _, fun h0 => absurd h0 e, .inr rfl, by simp, ?_, (Js.append_ok h.ok _).1.s⟩
        rw [hop, List.filterMap_append, hk, List.filterMap_cons, mdec_menc hm]
        simp
theorem moAt_cells {F : Nat → Prop} {l : List Mo} {p : Option Addr} {n c : Nat} (h : moE.At w F l (.slice p n c)) : ∃ xs, moE.Cs w F l xs ∧ (0 < l.length → ∃ a, p = some a ∧ CellsAt w a xs) := by
  obtain ⟨p', c', he, _, h3⟩ := h
  injection he with e1 e2 e3
  subst e1
  cases l with
  | nil => exact ⟨[], rfl, fun h => absurd h (Nat.lt_irrefl _)⟩
  | cons x r =>
    obtain ⟨b, xs, rfl, _, h5, h6⟩ := h3 (by simp)
    exact ⟨xs, h5, fun _ => ⟨b, rfl, h6⟩⟩
theorem Enc.Cs.takes {α : Type} {e : Enc α} {F : Nat → Prop} : ∀ {l : List α} {xs : List Value} (i : Nat), e.Cs w F l xs → i ≤ l.length → e.Cs w F (l.take i) (xs.take (i * e.sz))
  | l, xs, 0, _, _ => by simp only [List.take_zero, Nat.zero_mul]; rfl
  | [], xs, i + 1, _, h => by simp at h
  | x :: r, xs, i + 1, ⟨cs, ys, h1, h2, h3⟩, h => by
    have hl := e.len h2
    refine ⟨cs, ys.take (i * e.sz), ?_, h2, Enc.Cs.takes i h3 (by simp only [List.length_cons] at h; omega)⟩
    rw [h1, List.take_append, hl, Nat.succ_mul, List.take_of_length_le (by omega), show i * e.sz + e.sz - e.sz = i * e.sz by omega]
theorem appK_mono {e : TypeId} {sz bytes n c m : Nat} {p q : Option Addr} {K K' : Option Addr → Nat → World → Prop} (h : appK w e sz bytes p n c q m K) (hk : ∀ p c w, K p c w → K' p c w) : appK w e sz bytes p n c q m K' := by
  obtain ⟨xs, news, h1, h2, h3, h4, h5, h6, h7⟩ := h
  exact ⟨xs, news, h1, h2, h3, h4, h5, h6, fun p' c' w' a b d => hk _ _ _ (h7 p' c' w' a b d)⟩
theorem two_lists {F : Nat → Prop} {la lb : List Mo} {pa pb : Option Addr} {na nb ca cb i : Nat} (ha : moE.At w F la (.slice pa na ca)) (hb : moE.At w F lb (.slice pb nb cb)) (hi : i ≤ lb.length) (h1 : la.length ≤ 10000) (h2 : lb.length ≤ 10000) {R : Option Addr → Nat → World → Prop}
    (hR : ∀ p c w', moE.At w' (fun k => F k ∨ (w.heap.size ≤ k ∧ k < w'.heap.size)) (la ++ lb.take i) (.slice p (0 + na + i) c) → Still w w' → R p c w') :
    appK w ty_api_Memo 6 104 none 0 0 pa na (fun p cp w16 => appK w16 ty_api_Memo 6 104 p (0 + na) cp pb i R) := by
  obtain ⟨e1, _⟩ := ha.len
  obtain ⟨e2, _⟩ := hb.len
  subst e1 e2
  obtain ⟨xs, x1, x2⟩ := moAt_cells ha
  obtain ⟨ys, y1, y2⟩ := moAt_cells hb
  refine appK_push (Owns.nil w w.heap.size ty_api_Memo 6) (Nat.le_refl _) xs x1.len x1.one (fun hn => x2 hn) (by omega) (by omega) fun p cp w16 o16 m16 _ => ?_
  have s16 : Still w w16 := m16.weaken fun i h => by cases h
  have yt := y1.takes i hi
  have yl := yt.len
  rw [List.length_take_of_le hi] at yl
  refine appK_push o16 s16.size (ys.take (i * moE.sz)) yl yt.one (fun hn => ?_) (by omega) (by omega) fun p2 cp2 w17 o17 m17 _ => ?_
  · obtain ⟨a, rfl, hc⟩ := y2 (by omega)
    refine ⟨a, rfl, fun j u hu => s16.cell (hc j u ?_)⟩
    rw [List.getElem?_take] at hu
    split at hu
    · exact hu
    · cases hu
  have s17 : Still w w17 := s16.own o16 (Nat.le_refl _) m17
  refine hR p2 cp2 w17 ?_ s17
  have hc : moE.Cs w17 F (la ++ lb.take i) ([] ++ xs ++ ys.take (i * moE.sz)) := by
    rw [List.nil_append]
    exact (x1.append yt).turn (fun _ h => h) fun a v _ hc => s17.cell hc
  have el : (la ++ lb.take i).length = 0 + la.length + i := by rw [List.length_append, List.length_take_of_le hi]; omega
  have o : Owns w17 w.heap.size ty_api_Memo 6 (.slice p2 (la ++ lb.take i).length cp2) (la ++ lb.take i).length ([] ++ xs ++ ys.take (i * moE.sz)) := by rw [el]; exact o17
  have := moAt_of o hc
  rw [el] at this
  exact this
theorem Cj.device {g b gj gc : Nat} {F : Nat → Prop} {rp rm : Option Nat} {j : Js} {l : List Mo} (h : Cj (kJ w0 gj g b) w F ty_cache_Cache gc rp rm j l) {w' : World} {s' : St} (m : Mod (fun n => n = g ∨ n = b) w w') (d : Dev w' g b s') : Cj (kJ w0 gj g b) w' F ty_cache_Cache gc rp rm ⟨s', j.l, j.k⟩ l :=
  h.step (Jr.setDev h.jr m d) (m.weaken fun k hk => hk.elim .inl fun h => .inr (.inl h)) (NewOr.refl _ _)
set_option maxRecDepth 10000 in
set_option maxHeartbeats 1000000 in
theorem CacheWhole_spec (he : Env w) {la : List Mo} {pl : Option Addr} {nl cl : Nat} (hla : Arg22 w la (.slice pl nl cl)) {lb : List Mo} {pm : Option Addr} {nm cm : Nat} (hlb : Arg22 w lb (.slice pm nm cm)) (pw : Int) (_p0 : 0 ≤ pw) (_p1 : pw < 256) (mk : Int) (m0 : 0 ≤ mk) (m1 : mk < 18446744073709551616) :
    Calls Tryz.prog fn_law22_CacheWhole #[.slice pl nl cl, .slice pm nm cm, .int .u8 pw, .int .u64 mk] w (fun e w' => e = .returned (.bool true) ∧ Still w w') := by
  refine law22_CacheWhole_calls _ _ _ _ _ _ _ _ _ _ ?_
  refine (awake22_spec he (Still.refl w)).mono ?_
  rintro _ w1 ⟨rfl, s1⟩
  refine .inl ⟨_, rfl, bsel_of (fun h => by cases h) (fun _ => ?_)⟩
  have T0 := new_tidy (n := 200) (by decide) (by decide)
  refine (device_New_spec (n := 200) (by decide) (by decide)).mono ?_
  rintro _ w2 ⟨g, b, rfl, m2, hg, hb, d2⟩
  have s2 : Still w1 w2 := m2
  have d2 : Dev w2 g b (St.new 200) := d2
  have h02 := s1.trans s2
  have z1 := s1.size
  refine .inl ⟨_, _, rfl, bsel_of (fun h => by cases h) (fun _ => ?_)⟩
  have out : ∀ {w' : World}, Still w w' → bsel (!(some (⟨g, 0, none⟩ : Addr)).isNone) ((Ending.returned (.bool true)) = .returned (.bool true) ∧ Still w w') ((Ending.returned (.bool false)) = .returned (.bool true) ∧ Still w w') := fun h => ⟨rfl, h⟩
  refine (right_spec (hla.at h02) hla.2.1 hla.2.2).mono ?_
  rintro _ w3 ⟨⟨rb, rfl, hrb⟩, s3⟩
  have h03 := h02.trans s3
  refine .inl ⟨_, rfl, bsel_of (fun _ => out h03) (fun hR => ?_)⟩
  have hRa := hrb (by simpa using hR)
  clear hR hrb
  refine (right_spec (hlb.at h03) hlb.2.1 hlb.2.2).mono ?_
  rintro _ w4 ⟨⟨rb, rfl, hrb⟩, s4⟩
  have h04 := h03.trans s4
  refine .inl ⟨_, rfl, bsel_of (fun _ => out h04) (fun hR => ?_)⟩
  have hRb := hrb (by simpa using hR)
  clear hR hrb
  have fewA : ∀ m ∈ la, m.Few := fun m hm => hRa.few hm
  have fewB : ∀ m ∈ lb, m.Few := fun m hm => hRb.few hm
  have la30 := hRa.length
  have lb30 := hRb.length
  have secA := secs_le hRa
  have secB := secs_le hRb
  have d4 : Dev w4 g b (St.new 200) := (d2.mod s3 (fun h => h) (fun h => h)).mod s4 (fun h => h) (fun h => h)
  have lo : w.heap.size ≤ g ∧ w.heap.size ≤ b := by omega
  refine (copen_spec he h04 d4 T0.ok.s lo.1 lo.2).mono ?_
  rintro _ w5 ⟨gj, gc, rp, rm, F, rfl, s5, hgj, hgc, hrp, hrm, hF, C5⟩
  rw [openC_new 200 (by decide)] at C5
  have h05 := h04.trans s5
  have ok5 : (⟨⟨St.new 200, [], 0⟩, []⟩ : Cs22).Ok := ⟨T0.ok, Nat.le_refl _, fun x hx => by cases hx⟩
  refine .inl ⟨_, rfl, bsel_of (fun h => by cases h) (fun _ => ?_)⟩
  obtain ⟨c1, q1, q2, q3, q4, q5, q6, q7⟩ := addC_tidy la ⟨⟨St.new 200, [], 0⟩, []⟩ 0 T0 rfl fewA (by show 0 + _ ≤ 200; omega)
  have okc := addC_ok la 0 ok5 fun m hm => (fewA m hm).ok
  refine (cadd_spec he h05 C5 ok5 (hla.at h05) C5.f0 fewA (by omega)).mono ?_
  rintro _ w6 ⟨rfl, rp6, rm6, C6, m6, n6, n6'⟩
  have h06 := C5.stays h05 m6
  rw [q1] at C6 okc ⊢
  have okc : c1.Ok := okc
  have q3 : c1.l = la := q3
  have q4 : c1.j.l = la.map menc := q4
  have q5 : c1.j.k = 0 + secs la := q5
  have q6 : c1.j.s.n = 200 := q6
  have C6 : Cj (kJ w gj g b) w6 F ty_cache_Cache gc rp6 rm6 c1.j la := by rw [← q3]; exact C6
  refine .inl ⟨_, _, rfl, (cmemos_spec C6 (by omega)).mono ?_⟩
  rintro _ w7 ⟨r8, D8, rfl, hwas, s7⟩
  have h07 := h06.trans s7
  have C7 := C6.still s7
  refine .inl ⟨_, _, _, rfl, by decide, (device_Limit_spec C7.jr.dev _ _).mono ?_⟩
  rintro _ w8 ⟨rfl, m8, d8⟩
  have C8 := C7.device m8 d8
  have m8' : Mod (CF (kJ w gj g b) gc rp6 rm6) w7 w8 := m8.weaken fun k hk => .inl (hk.elim .inl fun h => .inr (.inl h))
  have h08 := C7.stays h07 m8'
  have hlim : Int.tmod (IntKind.i64.wrap pw) 30 < 9223372036854775808 := by
    have := Int.tmod_lt_of_pos (IntKind.i64.wrap pw) (show (0 : Int) < 30 by decide)
    omega
  have T8 := q2.limit hlim m0 m1
  generalize Int.tmod (IntKind.i64.wrap pw) 30 = lim at *
  have ok8 : (⟨⟨c1.j.s.limit lim mk, c1.j.l, c1.j.k⟩, la⟩ : Cs22).Ok := ⟨T8.ok, by have := okc.n; rw [q3] at this; exact this, fun m hm => (fewA m hm).ok⟩
  obtain ⟨n, i, u1, u2, u3, u4, u5, u6, u7⟩ := addC_torn lb ⟨⟨c1.j.s.limit lim mk, c1.j.l, c1.j.k⟩, la⟩ 0 T8 (by show c1.j.l.filterMap mdec = la; rw [q4]; exact fm_menc fewA) fewB (by show c1.j.k + _ ≤ c1.j.s.n; omega)
  refine .inl ⟨rfl, (cadd_spec he h08 C8 ok8 (hlb.at h08) C8.f0 fewB (by omega)).mono ?_⟩
  rintro _ w9 ⟨rfl, rp9, rm9, C9, m9, n9, n9'⟩
  have h09 := C8.stays h08 m9
  rw [u1, Nat.zero_add]
  generalize addC lb ⟨⟨c1.j.s.limit lim mk, c1.j.l, c1.j.k⟩, la⟩ 0 = r at *
  refine .inl ⟨_, _, rfl, (device_Restart_spec C9.jr.dev).mono ?_⟩
  rintro _ w10 ⟨rfl, m10, d10⟩
  have m10' : Mod (CF (kJ w gj g b) gc rp9 rm9) w9 w10 := m10.weaken fun k hk => .inl (hk.elim .inl fun h => .inr (.inl h))
  have h010 := C9.stays h09 m10'
  refine .inl ⟨rfl, (copen_spec he h010 d10 (restart_ok u7) lo.1 lo.2).mono ?_⟩
  rintro _ w11 ⟨gj2, gc2, rp2, rm2, F2, rfl, s11, _, _, _, _, _, C11⟩
  have h011 := h010.trans s11
  have okE := openC_ok (restart_ok u7)
  have u6 : (openC r.2.2.j.s.restart).l = la ++ lb.take i := u6
  generalize openC r.2.2.j.s.restart = ce at *
  obtain ⟨e2, hcm⟩ := hlb.1.len
  refine .inl ⟨_, rfl, ?_⟩
  refine ⟨fun w13 => w13 = w11, ⟨fun x w12 => x = false ∧ w12 = w11, bsel_of (fun h => by cases h) (fun _ => bsel_of (fun h => ?_) (fun _ => bsel_of (fun h => ?_) (fun _ => ⟨rfl, rfl⟩))), ?_⟩, ?_⟩
  · have := of_decide_eq_true h
    omega
  · have := u3 (of_decide_eq_true h)
    exact ⟨by rw [decide_eq_true (by omega)]; rfl, rfl⟩
  · rintro _ _ w12 ⟨rfl, rfl⟩
    exact bsel_of (fun h => by cases h) (fun _ => rfl)
  rintro _ w13 rfl
  have hE5 := okE.few
  refine (cmemos_spec C11 (by omega)).mono ?_
  rintro _ w14 ⟨q, D, rfl, hnow, s14⟩
  have h014 := h011.trans s14
  -- what was told ahead stands
  have ft6 : ∀ {k}, CF (kJ w gj g b) gc rp6 rm6 k → k < w6.heap.size := fun hk => (C6.foot hk).2
  have sep : ∀ k, (F k ∨ (w6.heap.size ≤ k ∧ k < w7.heap.size)) → ¬ CF (kJ w gj g b) gc rp6 rm6 k := fun k hk hc => by
    rcases hk with hk | hk
    · exact (C6.fl k hk).2 hc
    · have := ft6 hc; omega
  have was8 := hwas.mod m8' sep
  have was9 := was8.mod m9 sep
  have was10 := was9.mod m10 (fun k hk hc => sep k hk (.inl (hc.elim .inl fun h => .inr (.inl h))))
  have was14 := (was10.still s11).still s14
  have all : ∀ {w' : World} {l : List Mo} {v : Value}, moE.At w' (fun k => k < w.heap.size) l v → moE.At w' (fun _ => True) l v := fun h => h.any
  refine .inl ⟨_, _, _, rfl, fun x w15 => ∃ k : Nat, x = (k : Int) ∧ n ≤ k ∧ k ≤ i ∧ Still w14 w15, fun x _ => i + 1 - x.toNat, ⟨n, rfl, Nat.le_refl _, by omega, Still.refl _⟩, ?_⟩
  rintro _ _ w15 ⟨k, rfl, hk1, hk2, s15⟩
  have h015 := h014.trans s15
  refine bsel_of (fun _ => bsel_of (fun _ => ?_) (fun h => ?_)) (fun h => ?_)
  rotate_left
  · have := of_decide_eq_false h
    omega
  · have := of_decide_eq_false h
    rw [wrap_i64 (by omega) (by omega)] at this
    omega
  have w15A := (was14.still s15).any
  have w15B := (hlb.at h015).any
  have key := two_lists (i := k) w15A w15B (by omega) (by omega) (by omega) (R := fun p1 cp1 w17 => Calls Tryz.prog fn_ref19_SameAll #[.slice q ce.l.length D, .slice p1 (0 + la.length + k) cp1] w17 (fun ed12 w18 => (∃ r13 : Bool, ed12 = .returned (.bool r13) ∧ bsel r13 (bsel true (Calls Tryz.prog fn_ref19_SameAll #[.slice r8 la.length D8, .slice pl nl cl] w18 (fun ed13 w19 => (∃ r14 : Bool, ed13 = .returned (.bool r14) ∧ ((Ending.returned (.bool r14)) = .returned (.bool true) ∧ Still w w19)) ∨ ∃ ch13, ed13 = .panicked ch13 ∧ ((Ending.panicked ch13) = .returned (.bool true) ∧ Still w w19))) ((Ending.returned (.bool false)) = .returned (.bool true) ∧ Still w w18)) ((∃ k' : Nat, IntKind.i64.wrap ((k : Int) + 1) = (k' : Int) ∧ n ≤ k' ∧ k' ≤ i ∧ Still w14 w18) ∧ i + 1 - (IntKind.i64.wrap ((k : Int) + 1)).toNat < i + 1 - (k : Int).toNat)) ∨ ∃ ch12, ed12 = .panicked ch12 ∧ ((Ending.panicked ch12) = .returned (.bool true) ∧ Still w w18))) fun p1 cp1 w17 hall s17 => ?_
  · refine appK_mono key fun p cp w16 h => ⟨by omega, by omega, ?_⟩
    rw [Int.toNat_natCast]
    exact h
  have s147 := s15.trans s17
  have h017 := h015.trans s17
  refine (sameAll_spec (hnow.still s147) hall (by omega) okE.m).mono ?_
  rintro _ w18 ⟨rfl, s18⟩
  refine .inl ⟨_, rfl, bsel_of (fun _ => bsel_of (fun _ => ?_) (fun h => by cases h)) (fun hd => ?_)⟩
  · refine (sameAll_spec ((was14.still s147).still s18) (hla.at (h017.trans s18)) (by omega) fun m hm => (fewA m hm).ok).mono ?_
    rintro _ w19 ⟨rfl, s19⟩
    exact .inl ⟨_, rfl, by rw [decide_eq_true rfl], (h017.trans s18).trans s19⟩
  · have hd := of_decide_eq_false hd
    have hne : k ≠ i := by
      rintro rfl
      exact hd u6
    rw [wrap_i64 (by omega) (by omega)]
    exact ⟨⟨k + 1, by omega, by omega, by omega, s147.trans s18⟩, by omega⟩
end Go.Proofs.YtkdlmkbpfdogcaaGreatDoor
