/- Fields: the four laws, at the walk's level. Conditions: as each theorem names them. -/
import Derived.Test.YtfhdhokhddplhaaDoorFldRef
namespace Go.Proofs.YtfhdhokhddplhaaDoor
open Go.RowKit Vc
variable {w : World}

theorem SegsAt.row {g : Nat} {t : TypeId} {l : List Sg} (h : Row w g t ⟨sgs l⟩) : SegsAt w (some ⟨g, 0, none⟩) l.length l := ⟨rfl, At.row h⟩
theorem SegsAt.of {B : Nat} {p : Option Addr} {n C : Nat} {l : List Sg} (h : Owns w B 32 2 (.slice p n C) n (sgs l)) : SegsAt w p n l := ⟨by have := h.length; rw [sgs_length] at this; omega, At.own h⟩
theorem out_len (ifs : Txt) (l : List Sg) (h : big l ≤ 500000) : (fieldsR ifs l).length ≤ 600000 := by
  have h1 := allS_size ifs l
  have h2 := out_few (allS ifs l)
  unfold fieldsR endS
  split
  · simp only [St.fin, List.length_append, List.length_cons, List.length_nil]
    omega
  · omega
theorem both_fields {p : Option Addr} {n C : Nat} {l : List Sg} (h : SegsAt w p n l) (ifs : Txt) (hn : n ≤ 1000) (hl : big l ≤ 500000) (hi : ifs.length ≤ 1000000) {Q : Ending → World → Prop} (hQ : ∀ w', Still w w' → Q (.returned (.bool true)) w') {R : List PanicEntry → World → Prop} :
    Calls Tryd.prog fn_fields_Fields #[.slice p n C, .string (S ifs)] w (fun e1 w1 => (∃ (r : Option Addr) (rL rC : Nat), e1 = .returned (.slice r rL rC) ∧ Calls Tryd.prog fn_ref14_Fields #[.slice p n C, .string (S ifs)] w1 (fun e2 w2 => (∃ (q : Option Addr) (qL qC : Nat), e2 = .returned (.slice q qL qC) ∧ Calls Tryd.prog fn_ref02_Same #[.slice r rL rC, .slice q qL qC] w2 Q) ∨ (∃ c, e2 = .panicked c ∧ R c w2))) ∨ (∃ c, e1 = .panicked c ∧ R c w1)) := by
  have ho := out_len ifs l hl
  refine (fields_spec h ifs hn hl hi).mono ?_
  rintro _ w1 ⟨q1, D1, rfl, hq1, hs1⟩
  refine .inl ⟨_, _, _, rfl, (rfields_spec (h.still hs1) ifs hn hl hi).mono ?_⟩
  rintro _ w2 ⟨q2, D2, rfl, hq2, hs2⟩
  refine .inl ⟨_, _, _, rfl, (same_spec (hq1.still hs2) hq2 (by omega)).mono ?_⟩
  rintro _ w3 ⟨rfl, hs3⟩
  rw [decide_eq_true rfl]
  exact hQ _ ((hs1.trans hs2).trans hs3)
theorem awake_spec : Calls Tryd.prog fn_law14_awake #[] w (fun e w' => e = .returned (.bool true) ∧ Still w w') := by
  refine law14_awake_calls _ _ ?_
  have e1 : fieldsR [32, 58] [⟨2, [97, 32, 98, 58, 58, 32, 99]⟩] = [[97], [98], [], [99]] := by decide
  have e2 : joined true [⟨1, [42]⟩, ⟨3, []⟩] = [92, 42, 32] := by decide
  refine allocK fun w1 hr1 hs1 hz1 => ?_
  have h1 := fields_spec (C := 1) (SegsAt.row (l := [⟨2, [97, 32, 98, 58, 58, 32, 99]⟩]) hr1) [32, 58] (by decide) (by decide) (by decide)
  rw [e1] at h1
  refine h1.mono ?_
  rintro _ w2 ⟨q2, D2, rfl, hq2, hs2⟩
  refine .inl ⟨_, _, _, rfl, allocK fun w3 hr3 hs3 hz3 => (same_spec (hq2.still hs3) (StrsAt.row (l := [[97], [98], [], [99]]) hr3) (by decide)).mono ?_⟩
  rintro _ w4 ⟨rfl, hs4⟩
  refine .inl ⟨_, rfl, bsel_of (fun _ => allocK fun w5 hr5 hs5 hz5 => (joined_spec (C := 2) (SegsAt.row (l := [⟨1, [42]⟩, ⟨3, []⟩]) hr5) true (by decide) (by decide)).mono ?_) (fun h => by simp at h)⟩
  rintro _ w6 ⟨rfl, hs6⟩
  refine .inl ⟨_, rfl, by rw [e2]; rfl, ((((hs1.trans hs2).trans hs3).trans hs4).trans hs5).trans hs6⟩

/-! ### Pieces made of numbers -/
def BitsAt (w : World) (p : Option Addr) (n : Nat) : Prop := ∀ i, i < n → ∃ a, p = some a ∧ ∃ (k : Nat) (q : Option Addr) (L C : Nat) (vs : List Nat), k < 256 ∧ w.cell? (a.add (i * 2)) = some (.int .u8 (k : Int)) ∧ w.cell? ((a.add (i * 2)).add 1) = some (.slice q L C) ∧ U8At w q L vs
theorem BitsAt.still {p : Option Addr} {n : Nat} {w' : World} (h : BitsAt w p n) (hm : Still w w') : BitsAt w' p n := fun i hi => by
  obtain ⟨a, ha, k, q, L, C, vs, hk, c1, c2, hu⟩ := h i hi
  exact ⟨a, ha, k, q, L, C, vs, hk, hm.cell c1, hm.cell c2, hu.still hm⟩
def FewSegs (l : List Sg) : Prop := l.length ≤ 8 ∧ ∀ p ∈ l, p.kind < 4 ∧ p.text.length ≤ 28
theorem FewSegs.big {l : List Sg} (h : FewSegs l) : big l ≤ 500000 := by
  have : ∀ l : List Sg, (∀ p ∈ l, p.kind < 4 ∧ p.text.length ≤ 28) → Go.Proofs.YtfhdhokhddplhaaDoor.big l ≤ l.length * 57 := by
    intro l
    induction l with
    | nil => intro _; exact Nat.le_refl _
    | cons p l ih =>
      intro h
      have h1 := (h p List.mem_cons_self).2
      have h2 := ih (fun q hq => h q (List.mem_cons_of_mem _ hq))
      simp only [Go.Proofs.YtfhdhokhddplhaaDoor.big, List.map_cons, List.sum_cons, List.length_cons] at h2 ⊢
      omega
  have h1 := this l h.2
  have := h.1
  omega
def sg10 : List Txt := [[97], [32], [58], [9], [98], [92], [58, 32], [42], [], [10]]
theorem made_spec {p : Option Addr} {n C : Nat} (h : BitsAt w p n) : Calls Tryd.prog fn_law14_Made #[.slice p n C] w (fun e w' => ∃ q D l, e = .returned (.slice q l.length D) ∧ SegsAt w' q l.length l ∧ FewSegs l ∧ Still w w') := by
  refine law14_Made_calls _ _ _ _ _ ?_
  refine ⟨fun q L D i w1 => ∃ (k : Nat) (l : List Sg), i = (k : Int) ∧ k ≤ 8 ∧ L = l.length ∧ l.length ≤ k ∧ (∀ p ∈ l, p.kind < 4 ∧ p.text.length ≤ 28) ∧ Owns w1 w.heap.size 32 2 (.slice q L D) L (sgs l) ∧ Still w w1, fun _ _ _ i _ => 8 - i.toNat,
    ⟨0, [], rfl, by decide, rfl, Nat.le_refl _, by simp, Owns.nil _ _ _ _, Still.refl _⟩, ?_⟩
  rintro q _ D _ _ w1 ⟨k, l, rfl, hk, rfl, hl, hf, ho, hst⟩
  have done : ∃ q' D' l', (Ending.returned (.slice q l.length D)) = .returned (.slice q' l'.length D') ∧ SegsAt w1 q' l'.length l' ∧ FewSegs l' ∧ Still w w1 := ⟨q, D, l, rfl, SegsAt.of ho, ⟨by omega, hf⟩, hst⟩
  refine bsel_of (fun hx => bsel_of (fun h8 => ?_) (fun _ => done)) (fun _ => done)
  have hx : k < n := by have := of_decide_eq_true hx; omega
  have h8 : k < 8 := by have := of_decide_eq_true h8; omega
  have e1 : IntKind.i64.wrap ((k : Int) + 1) = ((k + 1 : Nat) : Int) := by rw [wrap_i64 (by omega) (by omega)]; omega
  rw [e1]
  simp only [Int.toNat_natCast]
  obtain ⟨a, rfl, kd, qb, Lb, Cb, vs, hkd, c1, c2, hu⟩ := (h.still hst) k hx
  have e4 : Int.tmod (IntKind.i64.wrap (kd : Int)) 4 = ((kd % 4 : Nat) : Int) := by
    rw [wrap_i64 (by omega) (by omega)]
    exact tmod_nat _ 4
  have h4 : kd % 4 < 4 := Nat.mod_lt _ (by decide)
  refine ⟨by omega, by omega, (kd : Int), c1, by decide, ?_⟩
  rw [e4]
  refine boxK rfl (by simp [Value.oneCell']) fun w3 hr3 hs3 hz3 => ⟨_, hr3.lget rfl, ?_⟩
  have hst3 := hst.trans hs3
  have next : ∀ (t : Txt) (w7 : World), t.length ≤ 28 → Still w w7 → Owns w7 w.heap.size 32 2 (.slice q l.length D) l.length (sgs l) →
      letW (w7.alloc (.cells #[.int .i64 ((kd % 4 : Nat) : Int), .string (S t)] 32)) (fun w8 => appK w8 32 2 24 q l.length D (some (Addr.mk w7.heap.size 0 none)) 1 (fun p' c' w9 => (∃ (k' : Nat) (l' : List Sg), ((k + 1 : Nat) : Int) = (k' : Int) ∧ k' ≤ 8 ∧ l.length + 1 = l'.length ∧ l'.length ≤ k' ∧ (∀ p ∈ l', p.kind < 4 ∧ p.text.length ≤ 28) ∧ Owns w9 w.heap.size 32 2 (.slice p' (l.length + 1) c') (l.length + 1) (sgs l') ∧ Still w w9) ∧ 8 - (k + 1) < 8 - k)) := by
    intro t w7 ht hst7 ho7
    refine push1 ho7 hst7.size rfl (by simp [Value.oneCell']) (by omega) (by omega) fun p' c' w9 ho9 hm9 => ⟨⟨k + 1, l ++ [⟨kd % 4, t⟩], rfl, h8, by simp, by simp; omega, ?_, ?_, hst7.own ho7 (Nat.le_refl _) hm9⟩, by omega⟩
    · intro y hy
      rcases List.mem_append.1 hy with hy | hy
      · exact hf y hy
      · rw [List.mem_singleton.1 hy]
        exact ⟨h4, ht⟩
    · have e : sgs (l ++ [⟨kd % 4, t⟩]) = sgs l ++ [.int .i64 ((kd % 4 : Nat) : Int), .string (S t)] := by simp [sgs, sgCells]
      rw [e]
      exact ho9
  refine bsel_of (fun _ => ?_) (fun _ => ⟨_, _, hr3.lget rfl, hr3.lget rfl, next [] w3 (by decide) hst3 (ho.still hs3)⟩)
  refine ⟨by omega, by omega, _, _, _, hs3.cell c2, allocK fun w4 hr4 hs4 hz4 => ?_⟩
  have h28 := piecesR_len (sg := sg10) (M := 2) (by decide) vs
  refine (pieces_spec (sg := sg10) (hu.still (hs3.trans hs4)) (StrsAt.row (l := sg10) hr4) (by decide) (by decide) (by decide)).mono ?_
  rintro _ w5 ⟨rfl, rfl⟩
  have hr5 := hr3.still hs4
  refine .inl ⟨_, rfl, stK hr5 (by simp) (by simp [Value.oneCell']) fun w6 hr6 hm6 hz6 => ⟨_, _, hr6.lget rfl, hr6.lget rfl, ?_⟩⟩
  refine next _ w6 h28 ((hst3.trans hs4).box hst.size hm6) ?_
  exact ((ho.still hs3).still hs4).mod hm6 (fun j hj e => by have := (ho.lt j hj).2; omega)

/-! ### The laws -/
def ifs7 : List Txt := [[32, 9, 10], [58], [32, 58], [], [58, 9], [97], [92, 32]]
theorem FieldsSmall_spec (p : Option Addr) (n C : Nat) (h : BitsAt w p n) (f : Int) (hf0 : 0 ≤ f) (hf1 : f < 256) : Calls Tryd.prog fn_law14_FieldsSmall #[.slice p n C, .int .u8 f] w (fun e w' => e = .returned (.bool true) ∧ Still w w') := by
  obtain ⟨f, rfl⟩ := Int.eq_ofNat_of_zero_le hf0
  refine law14_FieldsSmall_calls _ _ _ _ _ _ ?_
  refine (made_spec h).mono ?_
  rintro _ w1 ⟨q, D, l, rfl, hq, hl, hs1⟩
  have hb := hl.big
  have h7 : f % 7 < 7 := Nat.mod_lt _ (by decide)
  have e7 : Int.tmod (IntKind.i64.wrap (f : Int)) 7 = ((f % 7 : Nat) : Int) := by
    rw [wrap_i64 (by omega) (by omega)]
    exact tmod_nat _ 7
  refine .inl ⟨_, _, _, rfl, allocK fun w2 hr2 hs2 hz2 => ⟨by decide, ?_⟩⟩
  rw [e7, Int.toNat_natCast]
  have h3 : ∀ k, k < 7 → (ifs7.getD k []).length ≤ 3 := by decide
  have h3 := h3 _ h7
  refine ⟨by omega, by omega, ifs7.getD (f % 7) [], by rw [Nat.mul_one, add_row, Nat.zero_add]; exact hr2.lget (strs_getD (l := ifs7) h7), ?_⟩
  generalize ifs7.getD (f % 7) [] = ifs at *
  have hl8 := hl.1
  refine awake_spec.mono ?_
  rintro _ w3 ⟨rfl, hs3⟩
  have hq3 := (hq.still hs2).still hs3
  have hst3 := (hs1.trans hs2).trans hs3
  refine .inl ⟨_, rfl, bsel_of (fun _ => ?_) (fun h => by cases h)⟩
  refine both_fields hq3 ifs (by omega) hb (by omega) fun w4 hs4 => ?_
  have hq4 := hq3.still hs4
  refine .inl ⟨_, rfl, bsel_of (fun _ => (joined_spec hq4 true (by omega) hb).mono ?_) (fun h => by cases h)⟩
  rintro _ w5 ⟨rfl, hs5⟩
  refine .inl ⟨_, rfl, (rjoined_spec (hq4.still hs5) true (by omega) hb).mono ?_⟩
  rintro _ w6 ⟨rfl, rfl⟩
  refine .inl ⟨_, rfl, bsel_of (fun _ => (joined_spec (hq4.still hs5) false (by omega) hb).mono ?_) (fun h => by simp at h)⟩
  rintro _ w7 ⟨rfl, hs7⟩
  refine .inl ⟨_, rfl, (rjoined_spec ((hq4.still hs5).still hs7) false (by omega) hb).mono ?_⟩
  rintro _ w8 ⟨rfl, rfl⟩
  exact .inl ⟨_, rfl, by rw [decide_eq_true rfl], ((hst3.trans hs4).trans hs5).trans hs7⟩
theorem FieldsWhole_spec (p : Option Addr) (n C : Nat) (h : BitsAt w p n) : Calls Tryd.prog fn_law14_FieldsWhole #[.slice p n C] w (fun e w' => e = .returned (.bool true) ∧ Still w w') := by
  refine law14_FieldsWhole_calls _ _ _ _ _ ?_
  refine awake_spec.mono ?_
  rintro _ w1 ⟨rfl, hs1⟩
  refine .inl ⟨_, rfl, bsel_of (fun h => by cases h) (fun _ => (made_spec (h.still hs1)).mono ?_)⟩
  rintro _ w2 ⟨q, D, l, rfl, hq, hl, hs2⟩
  have hl8 := hl.1
  have hst2 := hs1.trans hs2
  refine .inl ⟨_, _, _, rfl, fun x xL xC i w3 => ∃ (k : Nat) (m : List Sg), i = (k : Int) ∧ k ≤ l.length ∧ xL = m.length ∧ m.length ≤ k ∧ (∀ y ∈ m, y ∈ l ∧ y.kind ≠ 3) ∧ Owns w3 w2.heap.size 32 2 (.slice x xL xC) xL (sgs m) ∧ Still w2 w3, fun _ _ _ i _ => l.length - i.toNat,
    ⟨0, [], rfl, Nat.zero_le _, rfl, Nat.le_refl _, by simp, Owns.nil _ _ _ _, Still.refl _⟩, ?_⟩
  rintro x _ xC _ _ w3 ⟨k, m, rfl, hk, rfl, hm, hmem, ho, hst⟩
  refine bsel_of (fun hx => ?_) (fun hx => ?_)
  · have hx : k < l.length := by have := of_decide_eq_true hx; omega
    have e1 : IntKind.i64.wrap ((k : Int) + 1) = ((k + 1 : Nat) : Int) := by rw [wrap_i64 (by omega) (by omega)]; omega
    rw [e1]
    simp only [Int.toNat_natCast]
    obtain ⟨a, y, rfl, hy, c1, c2⟩ := (hq.still hst).get hx
    refine ⟨by omega, by omega, _, c1, bsel_of (fun h3 => ?_) (fun h3 => ⟨⟨k + 1, m, rfl, hx, rfl, by omega, hmem, ho, hst⟩, by omega⟩)⟩
    have h3 : y.kind ≠ 3 := by
      have : ¬ (y.kind : Int) = 3 := by simpa using h3
      omega
    refine ⟨by omega, by omega, _, _, c1, c2, push1 ho hst.size rfl (by simp [Value.oneCell']) (by omega) (by omega) fun p' c' w9 ho9 hm9 => ⟨⟨k + 1, m ++ [y], rfl, hx, by simp, by simp; omega, ?_, ?_, hst.own ho (Nat.le_refl _) hm9⟩, by omega⟩⟩
    · intro z hz
      rcases List.mem_append.1 hz with hz | hz
      · exact hmem z hz
      · rw [List.mem_singleton.1 hz]
        exact ⟨List.mem_of_getElem? hy, h3⟩
    · have e : sgs (m ++ [y]) = sgs m ++ [.int .i64 (y.kind : Int), .string (S y.text)] := by simp [sgs, sgCells]
      rw [e]
      exact ho9
  · have hfm : FewSegs m := ⟨by omega, fun z hz => hl.2 z (hmem z hz).1⟩
    have hb := hfm.big
    have hsm : SegsAt w3 x m.length m := SegsAt.of ho
    have hlaw := whole_law (fun z hz => (hmem z hz).2) (fun z hz => (hfm.2 z hz).1)
    have hm8 := hfm.1
    refine (fields_spec hsm [] (by omega) hb (by decide)).mono ?_
    rintro _ w4 ⟨q4, D4, rfl, hq4, hs4⟩
    refine .inl ⟨_, _, _, rfl, (joined_spec (hsm.still hs4) true (by omega) hb).mono ?_⟩
    rintro _ w5 ⟨rfl, hs5⟩
    have hst5 := ((hst2.trans hst).trans hs4).trans hs5
    refine .inl ⟨_, rfl, bsel_of (fun _ => ?_) (fun h => by cases h)⟩
    rcases hlaw with ⟨e1, e2⟩ | e1
    · rw [e1, e2]
      exact bsel_of (fun _ => bsel_of (fun _ => ⟨rfl, hst5⟩) (fun h => by simp at h)) (fun h => by simp at h)
    · rw [e1] at hq4 ⊢
      refine bsel_of (fun h => by simp at h) (fun _ => bsel_of (fun _ => ?_) (fun h => by simp at h))
      obtain ⟨a, rfl, c1⟩ := (hq4.still hs5).get (k := 0) (by simp)
      exact ⟨by decide, by simp, _, c1, by simp, hst5⟩
theorem FieldsBlanks_spec (s : Txt) (hs : s.length ≤ 140737488355328) (t : Txt) (ht : t.length ≤ 140737488355328) : Calls Tryd.prog fn_law14_FieldsBlanks #[.string (S s), .string (S t)] w (fun e w' => e = .returned (.bool true) ∧ Still w w') := by
  refine law14_FieldsBlanks_calls _ _ _ _ ?_
  refine awake_spec.mono ?_
  rintro _ w1 ⟨rfl, hs1⟩
  refine .inl ⟨_, rfl, bsel_of (fun h => by cases h) (fun _ => bsel_of (fun _ => ⟨rfl, hs1⟩) (fun h3 => bsel_of (fun _ => ⟨rfl, hs1⟩) (fun h4 => ?_)))⟩
  have h3 : s.length ≤ 300 := by have := of_decide_eq_false h3; omega
  have h4 : t.length ≤ 300 := by have := of_decide_eq_false h4; omega
  have hb1 : ∀ (k : Nat) (u : Txt), u.length ≤ 1000 → big [⟨k, u⟩] ≤ 500000 := fun k u hu => by simp only [big, List.map_cons, List.map_nil, List.sum_cons, List.sum_nil]; omega
  have hne := blanks_noEmpty s
  have hab := blanks_about s
  refine allocK fun w2 hr2 hs2 hz2 => (fields_spec (C := 1) (SegsAt.row (l := [⟨2, s⟩]) hr2) blanks (by simp) (hb1 _ _ (by omega)) (by decide)).mono ?_
  rintro _ w3 ⟨q3, D3, rfl, hq3, hs3⟩
  have hl3 := out_len blanks [⟨2, s⟩] (hb1 _ _ (by omega))
  refine .inl ⟨_, _, _, rfl, by simp only [List.length_cons, List.length_nil]; omega, by simp only [List.length_append, List.length_cons, List.length_nil]; omega, allocK fun w4 hr4 hs4 hz4 => ?_⟩
  have h4' := fields_spec (C := 1) (SegsAt.row (l := [⟨2, [32, 10] ++ s ++ [9, 32]⟩]) hr4) blanks (by simp) (hb1 _ _ (by simp only [List.length_append, List.length_cons, List.length_nil]; omega)) (by decide)
  rw [hab] at h4'
  refine h4'.mono ?_
  generalize fieldsR blanks [⟨2, s⟩] = f at *
  rintro _ w5 ⟨q5, D5, rfl, hq5, hs5⟩
  have hst5 := (((hs1.trans hs2).trans hs3).trans hs4).trans hs5
  have hq35 := (hq3.still hs4).still hs5
  refine .inl ⟨_, _, _, rfl, fun i w6 => ∃ k : Nat, i = (k : Int) ∧ k ≤ f.length ∧ Still w5 w6, fun i _ => f.length - i.toNat, ⟨0, rfl, Nat.zero_le _, Still.refl _⟩, ?_⟩
  rintro _ _ w6 ⟨k, rfl, hk, hst⟩
  refine bsel_of (fun hx => ?_) (fun hx => ?_)
  · have hx : k < f.length := by have := of_decide_eq_true hx; omega
    have e1 : IntKind.i64.wrap ((k : Int) + 1) = ((k + 1 : Nat) : Int) := by rw [wrap_i64 (by omega) (by omega)]; omega
    rw [e1]
    simp only [Int.toNat_natCast, Nat.mul_one]
    obtain ⟨a, rfl, c1⟩ := (hq35.still hst).get hx
    refine ⟨by omega, by omega, _, c1, bsel_of (fun h => ?_) (fun _ => ⟨⟨k + 1, rfl, hx, hst⟩, by omega⟩)⟩
    exact absurd (of_decide_eq_true h) (hne _ (List.getElem_mem hx))
  · refine allocK fun w7 hr7 hs7 hz7 => ?_
    have h8 := fields_spec (C := 1) (SegsAt.row (l := [⟨1, t⟩]) hr7) [32, 9, 10, 58] (by simp) (hb1 _ _ (by omega)) (by decide)
    rw [literal_one] at h8
    refine h8.mono ?_
    rintro _ w8 ⟨q8, D8, rfl, hq8, hs8⟩
    have hs68 := (hst.trans hs7).trans hs8
    refine .inl ⟨_, _, _, rfl, bsel_of (fun _ => (same_spec (hq35.still hs68) (hq5.still hs68) (by omega)).mono ?_) (fun h => by cases h)⟩
    rintro _ w9 ⟨rfl, hs9⟩
    exact .inl ⟨_, rfl, bsel_of (fun _ => ⟨by simp, (hst5.trans hs68).trans hs9⟩) (fun h => by simp at h)⟩
theorem FieldsSplits_spec (s : Txt) (hs : s.length ≤ 140737488355328) (ifs : Txt) (hi : ifs.length ≤ 140737488355328) (t : Txt) (ht : t.length ≤ 140737488355328) :
    Calls Tryd.prog fn_law14_FieldsSplits #[.string (S s), .string (S ifs), .string (S t)] w (fun e w' => e = .returned (.bool true) ∧ Still w w') := by
  refine law14_FieldsSplits_calls _ _ _ _ _ ?_
  unfold vc_law14_FieldsSplits
  have e1 : IntKind.i64.wrap (IntKind.i64.wrap ((s.length : Int) + (ifs.length : Int)) + (t.length : Int)) = ((s.length + ifs.length + t.length : Nat) : Int) := by
    rw [wrap_i64 (n := (s.length : Int) + (ifs.length : Int)) (by omega) (by omega), wrap_i64 (by omega) (by omega)]
    omega
  rw [e1]
  refine bsel_of (fun _ => ?_) (fun h3 => ?_)
  · refine awake_spec.mono ?_
    rintro _ w1 ⟨rfl, hs1⟩
    exact .inl ⟨_, rfl, rfl, hs1⟩
  have h3 : s.length + ifs.length + t.length ≤ 300 := by have := of_decide_eq_false h3; omega
  refine allocK fun w1 hr1 hs1 hz1 => allocK fun w2 hr2 hs2 hz2 => awake_spec.mono ?_
  rintro _ w3 ⟨rfl, hs3⟩
  refine .inl ⟨_, rfl, bsel_of (fun _ => ?_) (fun h => by cases h)⟩
  have hq1 : SegsAt w3 (some ⟨w.heap.size, 0, none⟩) 1 [⟨2, s⟩] := (SegsAt.row (l := [⟨2, s⟩]) (hr1.still hs2)).still hs3
  have hq2 : SegsAt w3 (some ⟨w1.heap.size, 0, none⟩) 4 [⟨0, t⟩, ⟨2, s⟩, ⟨1, t⟩, ⟨2, s⟩] := (SegsAt.row (l := [⟨0, t⟩, ⟨2, s⟩, ⟨1, t⟩, ⟨2, s⟩]) hr2).still hs3
  refine both_fields hq1 ifs (by decide) (by simp only [big, List.map_cons, List.map_nil, List.sum_cons, List.sum_nil]; omega) (by omega) fun w4 hs4 => ?_
  refine .inl ⟨_, rfl, bsel_of (fun _ => ?_) (fun h => by cases h)⟩
  refine both_fields (hq2.still hs4) ifs (by decide) (by simp only [big, List.map_cons, List.map_nil, List.sum_cons, List.sum_nil]; omega) (by omega) fun w5 hs5 => ?_
  exact .inl ⟨_, rfl, rfl, (((hs1.trans hs2).trans hs3).trans hs4).trans hs5⟩
end Go.Proofs.YtfhdhokhddplhaaDoor
