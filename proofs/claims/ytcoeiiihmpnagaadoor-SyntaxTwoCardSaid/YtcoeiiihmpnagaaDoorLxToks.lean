/- The lexer's Tokens. Conditions: none on the text's length but the program's own. -/
import Derived.Test.YtcoeiiihmpnagaaDoorLxWord
import Derived.Test.YtcoeiiihmpnagaaDoorLxTokD
namespace Go.Proofs.YtcoeiiihmpnagaaDoor
open Go.RowKit Vc
variable {w : World}

abbrev Tok := Nat × Txt
theorem lineEnd_length : ∀ s : Txt, (lineEnd s).length ≤ s.length
  | [] => Nat.le_refl _
  | a :: r => by
    simp only [lineEnd]
    split
    · exact Nat.le_refl _
    · have := lineEnd_length r
      simp only [List.length_cons]
      omega
theorem wordL_length : ∀ (n : Nat) (s t : Txt), wordL n s = some t → t.length ≤ s.length
  | 0, _, _, h => by cases h
  | n + 1, s, t, h => by
    rw [wordL] at h
    split at h
    · obtain rfl := Option.some.inj h; exact Nat.le_refl _
    · split at h
      · rename_i t' ht
        have h1 := unitD_takes 30 _ _ ht
        have h2 := wordL_length n _ _ h
        omega
      · cases h
theorem wordD_length {s t : Txt} (he : endsB s = false) (h : wordD s = some t) : t.length < s.length := by
  cases hu : unitD 30 s with
  | none => rw [wordD_none he hu] at h; cases h
  | some t' =>
    rw [wordD_unit he hu] at h
    have h1 := unitD_takes 30 _ _ hu
    have h2 := wordL_length _ _ _ h
    omega
theorem opLen_le {a : UInt8} {r : Txt} : 0 < opLen (a :: r) ∧ opLen (a :: r) ≤ (a :: r).length := by
  cases r with
  | nil => exact ⟨Nat.one_pos, Nat.le_refl _⟩
  | cons b r => simp only [opLen]; split <;> simp
/-- The next token, if there is one here, and what is left. -/
def tokOne (a : UInt8) (r : Txt) : Option (List Tok × Txt) :=
  if a = 32 ∨ a = 9 then some ([], r)
  else if a = 35 then some ([], lineEnd r)
  else if a = 10 then some ([(2, [10])], r)
  else if isEnd a = true then some ([(1, (a :: r).take (opLen (a :: r)))], (a :: r).drop (opLen (a :: r)))
  else match wordD (a :: r) with
    | some t => some ([(0, (a :: r).take ((a :: r).length - t.length))], t)
    | none => none
def tokL : Nat → Txt → Option (List Tok)
  | 0, _ => none
  | _ + 1, [] => some []
  | n + 1, a :: r => match tokOne a r with
    | some (l, t) => match tokL n t with
      | some m => some (l ++ m)
      | none => none
    | none => none
def toks (s : Txt) : Option (List Tok) := tokL (s.length + 1) s
theorem tokOne_length {a : UInt8} {r t : Txt} {l : List Tok} (h : tokOne a r = some (l, t)) : t.length ≤ r.length ∧ l.length ≤ 1 := by
  unfold tokOne at h
  split at h
  · obtain ⟨rfl, rfl⟩ := Prod.mk.injEq .. ▸ Option.some.inj h
    exact ⟨Nat.le_refl _, by simp⟩
  · split at h
    · obtain ⟨rfl, rfl⟩ := Prod.mk.injEq .. ▸ Option.some.inj h
      exact ⟨lineEnd_length r, by simp⟩
    · split at h
      · obtain ⟨rfl, rfl⟩ := Prod.mk.injEq .. ▸ Option.some.inj h
        exact ⟨Nat.le_refl _, by simp⟩
      · split at h
        · obtain ⟨rfl, rfl⟩ := Prod.mk.injEq .. ▸ Option.some.inj h
          have := opLen_le (a := a) (r := r)
          refine ⟨?_, by simp⟩
          rw [List.length_drop]
          simp only [List.length_cons] at this ⊢
          omega
        · rename_i he
          split at h
          · rename_i t' ht
            obtain ⟨rfl, rfl⟩ := Prod.mk.injEq .. ▸ Option.some.inj h
            have := wordD_length (s := a :: r) (by simpa [endsB] using he) ht
            simp only [List.length_cons] at this
            exact ⟨by omega, by simp⟩
          · cases h
theorem tokL_more : ∀ (n m : Nat) (s : Txt), s.length < n → s.length < m → tokL n s = tokL m s
  | 0, _, _, h, _ => by omega
  | _, 0, _, _, h => by omega
  | n + 1, m + 1, [], _, _ => rfl
  | n + 1, m + 1, a :: r, hn, hm => by
    simp only [List.length_cons] at hn hm
    simp only [tokL]
    cases h : tokOne a r with
    | none => rfl
    | some x =>
      obtain ⟨l, t⟩ := x
      have := (tokOne_length h).1
      dsimp only
      rw [tokL_more n m t (by omega) (by omega)]
theorem toks_nil : toks [] = some [] := rfl
theorem toks_cons (a : UInt8) (r : Txt) : toks (a :: r) = (tokOne a r).bind fun x => (toks x.2).map (x.1 ++ ·) := by
  show tokL (r.length + 1 + 1) (a :: r) = _
  simp only [tokL]
  cases h : tokOne a r with
  | none => rfl
  | some x =>
    obtain ⟨l, t⟩ := x
    have := (tokOne_length h).1
    dsimp only [Option.bind]
    rw [tokL_more (r.length + 1) (t.length + 1) t (by omega) (by omega)]
    show _ = (tokL (t.length + 1) t).map _
    cases tokL (t.length + 1) t <;> rfl
def tc (l : List Tok) : List Value := l.flatMap fun x => [.int .i64 (x.1 : Int), .string (S x.2)]
theorem tc_append (l m : List Tok) : tc (l ++ m) = tc l ++ tc m := by simp [tc]
/-- What Tokens tells. -/
def tokRes (s : Txt) : List Tok × Int := if 20000 < s.length then ([], 2) else match toks s with
  | some l => (l, 0)
  | none => ([], 80)

/-- The loop's state: acc is told, s1 is left. -/
structure TS (w w1 : World) (s s1 : Txt) (acc : List Tok) : Prop where
  sc : Scan w1 (w.heap.size + 2) s1
  li : ∃ p C, Row w1 w.heap.size 40 ⟨[.slice p acc.length C]⟩ ∧ Owns w1 (w.heap.size + 3) 62 2 (.slice p acc.length C) acc.length (tc acc)
  er : Row w1 (w.heap.size + 1) 33 ⟨[.int .i64 0]⟩
  still : Still w w1
  size : w.heap.size + 3 ≤ w1.heap.size
  all : (toks s1).map (acc ++ ·) = toks s
  few : acc.length + s1.length ≤ s.length
theorem two_one {k : Int} {t : Txt} : ∀ u ∈ [Value.int .i64 k, .string (S t)], u.oneCell' = true := by
  intro u hu
  simp only [List.mem_cons, List.not_mem_nil, or_false] at hu
  rcases hu with rfl | rfl <;> rfl
theorem pair_src (w : World) (t : TypeId) (x y : Value) : 0 < 1 → ∃ a : Addr, (some (Addr.mk w.heap.size 0 none)) = some a ∧ ∀ (j : Nat) (u : Value), [x, y][j]? = some u → (w.alloc (.cells #[x, y] t)).cell? (a.add j) = some u := by
  refine fun _ => ⟨_, rfl, fun j u hu => ?_⟩
  rw [add_row, Nat.zero_add]
  exact (Row.new w t ⟨[x, y]⟩).cellv (by simpa using hu)
/-- Behind an append: the state with a token more. -/
theorem TS.pushed {w w1 w2 w3 : World} {s s1 t : Txt} {acc : List Tok} {k : Nat} {x : Txt} {p p3 : Option Addr} {C C3 : Nat} (h : TS w w1 s s1 acc) (hm : Only (w.heap.size + 2) w1 w2) (hsc : Scan w2 (w.heap.size + 2) t)
    (ho : Owns w2 (w.heap.size + 3) 62 2 (.slice p acc.length C) acc.length (tc acc)) (hl : Row w2 w.heap.size 40 ⟨[.slice p acc.length C]⟩)
    (ho3 : Owns w3 0 62 2 (Value.slice p3 (acc.length + 1) C3) (acc.length + 1) (tc acc ++ [.int .i64 (k : Int), .string (S x)])) {o : Obj} (hg : (w2.alloc o).grownBy w3 (Value.ownBlock (Value.slice p acc.length C)))
    (hb : Blk p p3 (acc.length + 1) C C3 (w2.alloc o).heap.size)
    (hall : (toks t).map ((acc ++ [(k, x)]) ++ ·) = toks s) (hfew : acc.length + 1 + t.length ≤ s.length) :
    Wr w3 ⟨w.heap.size, 0, none⟩ ∧ TS w (w3.setCell ⟨w.heap.size, 0, none⟩ (.slice p3 (acc.length + 1) C3)) s t (acc ++ [(k, x)]) := by
  have hs1 := h.size
  have hs2 : w.heap.size + 3 ≤ w2.heap.size := Nat.le_trans hs1 hm.size
  have hst2 : Still w w2 := Mod.trans h.still hm (fun _ h => h) (fun i hi h => by omega)
  have ho3' := ho.pushed hs2 ho3 hb
  have hl3 := hl.pushed ho (Nat.lt_of_lt_of_le (by omega) (Nat.le_refl _)) hg
  have hsc3 := hsc.pushed ho (by omega) hg
  have her2 := h.er.mod hm (by omega)
  have her3 := her2.pushed ho (by omega) hg
  have hst3 : Still w w3 := hst2.pushed ho (by omega) hg
  have hown : ∀ j, (Value.slice p3 (acc.length + 1) C3).ownBlock = some j → w.heap.size + 3 ≤ j := fun j hj => (ho3'.lt j hj).1
  refine ⟨hl3.wr 0 (by simp), ?_⟩
  refine ⟨hsc3.far (by simp) _, ⟨p3, C3, ?_, ?_⟩, her3.far (by simp) _, hst3.setCell (.inr (Nat.le_refl _)) _, ?_, hall, by simp; omega⟩
  · have := hl3.setl 0 (.slice p3 (acc.length + 1) C3)
    simpa using this
  · have := ho3'.far (p := ⟨w.heap.size, 0, none⟩) (fun e => by have := hown _ e; dsimp only at this; omega) (.slice p3 (acc.length + 1) C3)
    rw [tc_append]
    simpa [tc] using this
  · have h1 := hg.size
    simp only [World.size_alloc, World.size_setCell] at h1 ⊢
    omega
/-- The deferred call behind what does not end. -/
theorem fails {w w3 : World} {s : Txt} {R : Ending → World → Prop} (_h20 : ¬ 20000 < s.length) (_hno : toks s = none) (hst : Still w w3) {x : Value} (hl : Row w3 w.heap.size 40 ⟨[x]⟩) {y : Value} (he : Row w3 (w.heap.size + 1) 33 ⟨[y]⟩)
    (hR : ∀ w', Still w w' → R (.returned (.tuple #[.slice none 0 0, .int .i64 80])) w') :
    CallsD Tryd.prog fn_lexer_Tokens_1 #[(.pointer (some (Addr.mk w.heap.size 0 none))), (.pointer (some (Addr.mk (w.heap.size + 1) 0 none)))] (.panicking quoteP) w3 (fun ed1 ux w4 => (∃ rv, ed1 = .returned rv) ∧ settle ux = .returning ∧ ∃ (v4 : Option Addr) (vL1 vC1 : Nat), w4.cell? (Addr.mk w.heap.size 0 none) = some (.slice v4 vL1 vC1) ∧ ∃ v5 : Int, w4.cell? (Addr.mk (w.heap.size + 1) 0 none) = some (.int .i64 v5) ∧ R (.returned (.tuple #[(.slice v4 vL1 vC1), (.int .i64 v5)])) w4) := by
  have hne : w.heap.size ≠ w.heap.size + 1 := by omega
  have he2 := he.drew.far (p := ⟨w.heap.size, 0, none⟩) hne.symm (.slice none 0 0)
  have hl2 := hl.drew.setl 0 (.slice none 0 0)
  refine (tokens_panics ⟨w.heap.size, 0, none⟩ ⟨w.heap.size + 1, 0, none⟩ 80 w3 (hl.wr 0 (by simp)) (he2.wr 0 (by simp))).mono ?_
  rintro _ u w4 ⟨rfl, hu, rfl⟩
  have hl3 := hl2.far (p := ⟨w.heap.size + 1, 0, none⟩) hne (.int .i64 80)
  have he3 := he2.setl 0 (.int .i64 80)
  refine ⟨⟨_, rfl⟩, hu, _, _, _, hl3.cellv rfl, _, he3.cellv rfl, hR _ ?_⟩
  exact (hst.drew.setCell (.inr (Nat.le_refl _)) _).setCell (.inr (Nat.le_succ _)) _
set_option maxHeartbeats 2000000 in
theorem tokens_spec (s : Txt) : Calls Tryd.prog fn_lexer_Tokens #[.string (S s)] w
    (fun e w' => ∃ p C, e = .returned (.tuple #[.slice p (tokRes s).1.length C, .int .i64 (tokRes s).2]) ∧ Owns w' w.heap.size 62 2 (.slice p (tokRes s).1.length C) (tokRes s).1.length (tc (tokRes s).1) ∧ Still w w') := by
  refine lexer_Tokens_calls _ _ _ ?_
  have hl0 : Row (w.alloc (.cells #[(.slice none 0 0)] 40)) w.heap.size 40 ⟨[.slice none 0 0]⟩ := Row.new _ _ _
  have s1 : (w.alloc (.cells #[(.slice none 0 0)] 40)).heap.size = w.heap.size + 1 := World.size_alloc ..
  have he0 : Row ((w.alloc (.cells #[(.slice none 0 0)] 40)).alloc (.cells #[(.int .i64 0)] 33)) (w.heap.size + 1) 33 ⟨[.int .i64 0]⟩ := by
    have := Row.new (w.alloc (.cells #[(.slice none 0 0)] 40)) 33 ⟨[.int .i64 0]⟩
    rwa [s1] at this
  have s2 : ((w.alloc (.cells #[(.slice none 0 0)] 40)).alloc (.cells #[(.int .i64 0)] 33)).heap.size = w.heap.size + 2 := by rw [World.size_alloc, s1]
  have hl1 := hl0.alloc (.cells #[(.int .i64 0)] 33)
  have hst : Still w ((w.alloc (.cells #[(.slice none 0 0)] 40)).alloc (.cells #[(.int .i64 0)] 33)) := ((Mod.refl _ _).alloc _).alloc _
  have hne : w.heap.size ≠ w.heap.size + 1 := by omega
  unfold vc_lexer_Tokens
  rw [s1, s2]
  generalize (w.alloc (.cells #[(.slice none 0 0)] 40)).alloc (.cells #[(.int .i64 0)] 33) = w0 at he0 s2 hl1 hst ⊢
  refine bsel_of (fun h20 => ?_) (fun h20 => ?_)
  · have h20 := of_decide_eq_true h20
    have hres : tokRes s = ([], 2) := by unfold tokRes; rw [if_pos (by omega)]
    rw [hres]
    have he2 := he0.far (p := ⟨w.heap.size, 0, none⟩) hne.symm (.slice none 0 0)
    have hl2 := (hl1.setl 0 (.slice none 0 0)).far (p := ⟨w.heap.size + 1, 0, none⟩) hne (.int .i64 2)
    refine ⟨hl1.wr 0 (by simp), he2.wr 0 (by simp), _, _, _, hl2.cellv rfl, _, (he2.setl 0 (.int .i64 2)).cellv rfl, none, 0, rfl, Owns.nil _ _ _ _, ?_⟩
    exact (hst.setCell (.inr (Nat.le_refl _)) _).setCell (.inr (Nat.le_succ _)) _
  have h20 : ¬ 20000 < s.length := by have := of_decide_eq_false h20; omega
  have hsc0 : Scan (w0.alloc (.cells #[(.string (S s))] 59)) (w.heap.size + 2) s := by
    have := Row.new w0 59 ⟨[.string (S s)]⟩
    rwa [s2] at this
  refine ⟨fun w1 => ∃ s1 acc, TS w w1 s s1 acc, scanLen (w.heap.size + 2), ⟨s, [], hsc0, ⟨none, 0, hl1.alloc _, Owns.nil _ _ _ _⟩, he0.alloc _, hst.alloc _, by rw [World.size_alloc, s2]; exact Nat.le_refl _, by simp, by simp⟩, ?_⟩
  rintro _ w1 ⟨s1, acc, h⟩
  have hst1 := h.still
  have hfew := h.few
  have hown := h.li
  obtain ⟨p, C, hli, ho⟩ := hown
  refine ⟨s1, h.sc.cell, bsel_of (fun hne1 => ?_) (fun hne1 => ?_)⟩
  · have hne1 : s1 ≠ [] := by simpa using hne1
    obtain ⟨a, r, rfl⟩ := List.exists_cons_of_ne_nil hne1
    simp only [List.length_cons] at hfew
    have hall := h.all
    rw [toks_cons] at hall
    have hlen1 : scanLen (w.heap.size + 2) w1 = r.length + 1 := by rw [h.sc.len]; rfl
    rw [hlen1]
    -- nothing is told here
    have quiet : ∀ (t : Txt) (w3 : World), t.length ≤ r.length → tokOne a r = some ([], t) → Only (w.heap.size + 2) w1 w3 → Scan w3 (w.heap.size + 2) t → (∃ s1 acc, TS w w3 s s1 acc) ∧ scanLen (w.heap.size + 2) w3 < r.length + 1 := by
      intro t w3 ht hone hm hsc
      refine ⟨⟨t, acc, hsc, ⟨p, C, hli.mod hm (by omega), ho.mod hm (fun k hk => by have := (ho.lt k hk).1; omega)⟩, h.er.mod hm (by omega), Mod.trans hst1 hm (fun _ h => h) (fun i hi h => by omega), Nat.le_trans h.size hm.size, ?_, by omega⟩, by rw [hsc.len]; omega⟩
      rw [hone] at hall
      simpa using hall
    -- a token is told here
    have told : ∀ (k : Nat) (x t : Txt), tokOne a r = some ([(k, x)], t) → (toks t).map ((acc ++ [(k, x)]) ++ ·) = toks s := by
      intro k x t hone
      rw [hone] at hall
      have h2 : (toks t).map ((acc ++ [(k, x)]) ++ ·) = Option.map (fun y => acc ++ y) (Option.map (fun y => [(k, x)] ++ y) (toks t)) := by
        cases toks t <;> simp
      rw [h2]
      exact hall
    refine ⟨_, h.sc.cell, by decide, a, rfl, fun x w2 => x = decide (a = 32 ∨ a = 9) ∧ w2 = w1, bsel_of (fun h32 => ⟨?_, rfl⟩) (fun h32 => ⟨?_, rfl⟩), ?_⟩
    · have h32 : a = 32 := byte_eq.1 (of_decide_eq_true h32)
      rw [decide_eq_true (.inl h32)]
    · have h32 : ¬ a = 32 := fun e => of_decide_eq_false h32 (byte_eq.2 e)
      apply decide_eq_decide.2
      exact ⟨fun h => .inr (byte_eq.1 h), fun h => h.elim (fun h => absurd h h32) (fun h => byte_eq.2 h)⟩
    rintro _ _ w2 ⟨rfl, rfl⟩
    refine bsel_of (fun hbl => ?_) (fun hbl => bsel_of (fun h35 => ?_) (fun h35 => bsel_of (fun h10 => ?_) (fun h10 => ?_)))
    · have hbl := of_decide_eq_true hbl
      refine (skip_spec h.sc 1).mono fun e w3 ht => ?_
      rw [if_pos (by simp)] at ht
      obtain ⟨hm3, rfl, h3⟩ := ht
      exact .inl ⟨rfl, quiet r w3 (Nat.le_refl _) (by unfold tokOne; rw [if_pos hbl]) hm3 h3⟩
    · have hbl := of_decide_eq_false hbl
      have h35 : a = 35 := byte_eq.1 (of_decide_eq_true h35)
      refine (lexcomment_spec h.sc).mono ?_
      rintro _ w3 ⟨hm3, rfl, h3⟩
      have hle : lineEnd (a :: r) = lineEnd r := by
        rw [h35]
        rfl
      rw [hle] at h3
      exact .inl ⟨rfl, quiet (lineEnd r) w3 (lineEnd_length r) (by unfold tokOne; rw [if_neg hbl, if_pos h35]) hm3 h3⟩
    · have hbl := of_decide_eq_false hbl
      have h35 : ¬ a = 35 := fun e => of_decide_eq_false h35 (byte_eq.2 e)
      have h10 : a = 10 := byte_eq.1 (of_decide_eq_true h10)
      refine (skip_spec h.sc 1).mono fun e w3 ht => ?_
      rw [if_pos (by simp)] at ht
      obtain ⟨hm3, rfl, h3⟩ := ht
      have hl3 := hli.mod hm3 (by omega)
      have ho3 := ho.mod hm3 (fun k hk => by have := (ho.lt k hk).1; omega)
      refine .inl ⟨rfl, _, _, _, hl3.cellv rfl, tc acc, [.int .i64 2, .string (S [10])], (ho3.alloc _).base0, rfl, two_one, pair_src _ _ _ _, by omega, by omega, fun p3 C3 w4 ho4 hg4 hb4 => ?_⟩
      obtain ⟨hwr, hts⟩ := h.pushed (k := 2) (x := [10]) (t := r) hm3 h3 ho3 hl3 ho4 hg4 hb4 (told 2 [10] r (by unfold tokOne; rw [if_neg hbl, if_neg h35, if_pos h10])) (by omega)
      refine ⟨hwr, ⟨_, _, hts⟩, ?_⟩
      rw [hts.sc.len]
      omega
    · have hbl := of_decide_eq_false hbl
      have h35 : ¬ a = 35 := fun e => of_decide_eq_false h35 (byte_eq.2 e)
      have h10 : ¬ a = 10 := fun e => of_decide_eq_false h10 (byte_eq.2 e)
      refine (lexends_spec h.sc).mono ?_
      rintro _ w3 ⟨rfl, rfl⟩
      refine .inl ⟨_, rfl, bsel_of (fun hend => ?_) (fun hend => ?_)⟩
      · have hend : isEnd a = true := hend
        refine ⟨fun wq => Row wq w.heap.size 40 ⟨[.slice p acc.length C]⟩, hli.drew, _, _, _, fun wq hq => hq.cellv rfl, (lexop_spec h.sc.drew (List.cons_ne_nil _ _)).mono ?_⟩
        rintro _ w4 ⟨hm4, rfl, h4⟩
        have hm4' : Only (w.heap.size + 2) w3 w4 := Mod.trans (Mod.refl (fun i => i = w.heap.size + 2) w3).drew hm4 (fun _ h => h) (fun _ _ h => h)
        have hl4 := hli.mod hm4' (by omega)
        have ho4 := ho.mod hm4' (fun k hk => by have := (ho.lt k hk).1; omega)
        have hol := opLen_le (a := a) (r := r)
        refine .inl ⟨_, rfl, hl4, hl4.alloc _, tc acc, [.int .i64 1, .string (S ((a :: r).take (opLen (a :: r))))], (ho4.alloc _).base0, rfl, two_one, pair_src _ _ _ _, by omega, by omega, fun p3 C3 w5 ho5 hg5 hb5 => ?_⟩
        have hdl : ((a :: r).drop (opLen (a :: r))).length + opLen (a :: r) = r.length + 1 := by
          rw [List.length_drop]
          simp only [List.length_cons] at hol ⊢
          omega
        obtain ⟨hwr, hts⟩ := h.pushed (k := 1) (x := (a :: r).take (opLen (a :: r))) (t := (a :: r).drop (opLen (a :: r))) hm4' h4 ho4 hl4 ho5 hg5 hb5 (told 1 _ _ (by unfold tokOne; rw [if_neg hbl, if_neg h35, if_neg h10, if_pos hend])) (by omega)
        refine ⟨hwr, ⟨_, _, hts⟩, ?_⟩
        rw [hts.sc.len]
        omega
      · have hend : isEnd a = false := hend
        refine ⟨fun wq => Row wq w.heap.size 40 ⟨[.slice p acc.length C]⟩, hli.drew, _, _, _, fun wq hq => hq.cellv rfl, (lexword_spec h.sc.drew (by simp only [List.length_cons]; omega)).mono ?_⟩
        rintro e w4 ⟨hm4, hw⟩
        have hm4' : Only (w.heap.size + 2) w3 w4 := Mod.trans (Mod.refl (fun i => i = w.heap.size + 2) w3).drew hm4 (fun _ h => h) (fun _ _ h => h)
        have hl4 := hli.mod hm4' (by omega)
        have ho4 := ho.mod hm4' (fun k hk => by have := (ho.lt k hk).1; omega)
        have he4 := h.er.mod hm4' (by omega)
        have hst4 : Still w w4 := Mod.trans hst1 hm4' (fun _ h => h) (fun i hi h => by omega)
        have hone : tokOne a r = match wordD (a :: r) with
          | some t => some ([(0, (a :: r).take ((a :: r).length - t.length))], t)
          | none => none := by
          unfold tokOne
          rw [if_neg hbl, if_neg h35, if_neg h10, if_neg (by rw [hend]; decide)]
        cases hwd : wordD (a :: r) with
        | none =>
          rw [hwd] at hw hone
          obtain ⟨rfl, _⟩ := hw
          rw [hone] at hall
          have hno : toks s = none := by rw [← hall]; rfl
          have hres : tokRes s = ([], 80) := by unfold tokRes; rw [if_neg h20, hno]
          rw [hres]
          refine .inr ⟨_, rfl, fails (R := fun e w' => ∃ p C, e = .returned (.tuple #[.slice p (([], 80) : List Tok × Int).1.length C, .int .i64 (([], 80) : List Tok × Int).2]) ∧ Owns w' w.heap.size 62 2 (.slice p (([], 80) : List Tok × Int).1.length C) (([], 80) : List Tok × Int).1.length (tc (([], 80) : List Tok × Int).1) ∧ Still w w') h20 hno hst4 hl4 he4 fun w' h' => ⟨none, 0, rfl, Owns.nil _ _ _ _, h'⟩⟩
        | some t =>
          rw [hwd] at hw hone
          obtain ⟨rfl, h4, _⟩ := hw
          have htl := wordD_length (s := a :: r) (by simpa [endsB] using hend) hwd
          simp only [List.length_cons] at htl
          refine .inl ⟨_, rfl, hl4, hl4.alloc _, tc acc, [.int .i64 0, .string (S ((a :: r).take ((a :: r).length - t.length)))], (ho4.alloc _).base0, rfl, two_one, pair_src _ _ _ _, by omega, by omega, fun p3 C3 w5 ho5 hg5 hb5 => ?_⟩
          obtain ⟨hwr, hts⟩ := h.pushed (k := 0) (x := (a :: r).take ((a :: r).length - t.length)) (t := t) hm4' h4 ho4 hl4 ho5 hg5 hb5 (told 0 _ _ hone) (by omega)
          refine ⟨hwr, ⟨_, _, hts⟩, ?_⟩
          rw [hts.sc.len]
          omega
  · have hne1 : s1 = [] := by simpa using hne1
    subst hne1
    have hall : toks s = some acc := by rw [← h.all]; simp [toks_nil]
    have hres : tokRes s = (acc, 0) := by unfold tokRes; rw [if_neg h20, hall]
    rw [hres]
    have hl2 := hli.setl 0 (.slice p acc.length C)
    have he2 := h.er.far (p := ⟨w.heap.size, 0, none⟩) hne.symm (.slice p acc.length C)
    have hown : ∀ k, (Value.slice p acc.length C).ownBlock = some k → w.heap.size + 3 ≤ k := fun k hk => (ho.lt k hk).1
    refine ⟨p, acc.length, C, hli.cellv rfl, hli.wr 0 (by simp), he2.wr 0 (by simp), (tokens_idle _ _ _).mono ?_⟩
    rintro _ u w4 ⟨rfl, rfl, rfl⟩
    have hl3 := hl2.far (p := ⟨w.heap.size + 1, 0, none⟩) hne (.int .i64 0)
    refine ⟨⟨_, rfl⟩, rfl, p, acc.length, C, hl3.cellv rfl, 0, (he2.setl 0 (.int .i64 0)).cellv rfl, p, C, rfl, ?_, (hst1.setCell (.inr (Nat.le_refl _)) _).setCell (.inr (Nat.le_succ _)) _⟩
    have o1 := ho.far (p := ⟨w.heap.size, 0, none⟩) (fun e => by have := hown _ e; dsimp only at this; omega) (.slice p acc.length C)
    have o2 := o1.far (p := ⟨w.heap.size + 1, 0, none⟩) (fun e => by have := hown _ e; dsimp only at this; omega) (.int .i64 0)
    exact o2.base (fun k hk => by have := hown k hk; omega)
end Go.Proofs.YtcoeiiihmpnagaaDoor
