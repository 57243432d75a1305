/- Texts of one proof, one behind the other. Conditions: as each theorem names them. -/
import Derived.Test.YtcoeiiihmpnagaaGreatDoorQ5
import Derived.Tactics
import Derived.Tactics2
import Derived.Defers
import Derived.Recover
import Derived.Laws.Pointers
namespace Go.Proofs.YtcoeiiihmpnagaaGreatDoor
open Go.RowKit Vc
variable {w : World}
abbrev Tok := Nat × Txt
theorem lineEnd_length : ∀ s : Txt, (lineEnd s).length ≤ s.length
  | [] => Nat.le_refl _
  | a :: r => by
    simp only [lineEnd]
    split
    · exact Nat.le_refl _
    · have := lineEnd_length r
      simp only [List.length_cons]
      omega
theorem wordL_length : ∀ (n : Nat) (s t : Txt), wordL n s = some t → t.length ≤ s.length
  | 0, _, _, h => by cases h
  | n + 1, s, t, h => by
    rw [wordL] at h
    split at h
    · obtain rfl := Option.some.inj h; exact Nat.le_refl _
    · split at h
      · rename_i t' ht
        have h1 := unitD_takes 30 _ _ ht
        have h2 := wordL_length n _ _ h
        omega
      · cases h
theorem wordD_length {s t : Txt} (he : endsB s = false) (h : wordD s = some t) : t.length < s.length := by
  cases hu : unitD 30 s with
  | none => rw [wordD_none he hu] at h; cases h
  | some t' =>
    rw [wordD_unit he hu] at h
    have h1 := unitD_takes 30 _ _ hu
    have h2 := wordL_length _ _ _ h
    omega
theorem opLen_le {a : UInt8} {r : Txt} : 0 < opLen (a :: r) ∧ opLen (a :: r) ≤ (a :: r).length := by
  cases r with
  | nil => exact ⟨Nat.one_pos, Nat.le_refl _⟩
  | cons b r => simp only [opLen]; split <;> simp
def tokOne (a : UInt8) (r : Txt) : Option (List Tok × Txt) :=
  if a = 32 ∨ a = 9 then some ([], r)
  else if a = 35 then some ([], lineEnd r)
  else if a = 10 then some ([(2, [10])], r)
  else if isEnd a = true then some ([(1, (a :: r).take (opLen (a :: r)))], (a :: r).drop (opLen (a :: r)))
  else match wordD (a :: r) with
    | some t => some ([(0, (a :: r).take ((a :: r).length - t.length))], t)
    | none => none
def tokL : Nat → Txt → Option (List Tok)
  | 0, _ => none
  | _ + 1, [] => some []
  | n + 1, a :: r => match tokOne a r with
    | some (l, t) => match tokL n t with
      | some m => some (l ++ m)
      | none => none
    | none => none
def toks (s : Txt) : Option (List Tok) := tokL (s.length + 1) s
theorem tokOne_length {a : UInt8} {r t : Txt} {l : List Tok} (h : tokOne a r = some (l, t)) : t.length ≤ r.length ∧ l.length ≤ 1 := by
  unfold tokOne at h
  split at h
  · obtain ⟨rfl, rfl⟩ := Prod.mk.injEq .. ▸ Option.some.inj h
    exact ⟨Nat.le_refl _, by simp⟩
  · split at h
    · obtain ⟨rfl, rfl⟩ := Prod.mk.injEq .. ▸ Option.some.inj h
      exact ⟨lineEnd_length r, by simp⟩
    · split at h
      · obtain ⟨rfl, rfl⟩ := Prod.mk.injEq .. ▸ Option.some.inj h
        exact ⟨Nat.le_refl _, by simp⟩
      · split at h
        · obtain ⟨rfl, rfl⟩ := Prod.mk.injEq .. ▸ Option.some.inj h
          have := opLen_le (a := a) (r := r)
          refine ⟨?_, by simp⟩
          rw [List.length_drop]
          simp only [List.length_cons] at this ⊢
          omega
        · rename_i he
          split at h
          · rename_i t' ht
            obtain ⟨rfl, rfl⟩ := Prod.mk.injEq .. ▸ Option.some.inj h
            have := wordD_length (s := a :: r) (by simpa [endsB] using he) ht
            simp only [List.length_cons] at this
            exact ⟨by omega, by simp⟩
          · cases h
theorem tokL_more : ∀ (n m : Nat) (s : Txt), s.length < n → s.length < m → tokL n s = tokL m s
  | 0, _, _, h, _ => by omega
  | _, 0, _, _, h => by omega
  | n + 1, m + 1, [], _, _ => rfl
  | n + 1, m + 1, a :: r, hn, hm => by
    simp only [List.length_cons] at hn hm
    simp only [tokL]
    cases h : tokOne a r with
    | none => rfl
    | some x =>
      obtain ⟨l, t⟩ := x
      have := (tokOne_length h).1
      dsimp only
      rw [tokL_more n m t (by omega) (by omega)]
theorem toks_nil : toks [] = some [] := rfl
theorem toks_cons (a : UInt8) (r : Txt) : toks (a :: r) = (tokOne a r).bind fun x => (toks x.2).map (x.1 ++ ·) := by
  show tokL (r.length + 1 + 1) (a :: r) = _
  simp only [tokL]
  cases h : tokOne a r with
  | none => rfl
  | some x =>
    obtain ⟨l, t⟩ := x
    have := (tokOne_length h).1
    dsimp only [Option.bind]
    rw [tokL_more (r.length + 1) (t.length + 1) t (by omega) (by omega)]
    show _ = (tokL (t.length + 1) t).map _
    cases tokL (t.length + 1) t <;> rfl
def tc (l : List Tok) : List Value := l.flatMap fun x => [.int .i64 (x.1 : Int), .string (S x.2)]
theorem tc_append (l m : List Tok) : tc (l ++ m) = tc l ++ tc m := by simp [tc]
def tokRes (s : Txt) : List Tok × Int := if 20000 < s.length then ([], 2) else match toks s with
  | some l => (l, 0)
  | none => ([], 80)
structure TS (w w1 : World) (s s1 : Txt) (acc : List Tok) : Prop where
  sc : Scan w1 (w.heap.size + 2) s1
  li : ∃ p C, Row w1 w.heap.size 39 ⟨[.slice p acc.length C]⟩ ∧ Owns w1 (w.heap.size + 3) 64 2 (.slice p acc.length C) acc.length (tc acc)
  er : Row w1 (w.heap.size + 1) 32 ⟨[.int .i64 0]⟩
  still : Still w w1
  size : w.heap.size + 3 ≤ w1.heap.size
  all : (toks s1).map (acc ++ ·) = toks s
  few : acc.length + s1.length ≤ s.length
theorem two_one {k : Int} {t : Txt} : ∀ u ∈ [Value.int .i64 k, .string (S t)], u.oneCell' = true := by
  intro u hu
  simp only [List.mem_cons, List.not_mem_nil, or_false] at hu
  rcases hu with rfl | rfl <;> rfl
theorem pair_src (w : World) (t : TypeId) (x y : Value) : 0 < 1 → ∃ a : Addr, (some (Addr.mk w.heap.size 0 none)) = some a ∧ ∀ (j : Nat) (u : Value), [x, y][j]? = some u → (w.alloc (.cells #[x, y] t)).cell? (a.add j) = some u := by
  refine fun _ => ⟨_, rfl, fun j u hu => ?_⟩
  rw [add_row, Nat.zero_add]
  exact (Row.new w t ⟨[x, y]⟩).cellv (by simpa using hu)
theorem TS.pushed {w w1 w2 w3 : World} {s s1 t : Txt} {acc : List Tok} {k : Nat} {x : Txt} {p p3 : Option Addr} {C C3 : Nat} (h : TS w w1 s s1 acc) (hm : Only (w.heap.size + 2) w1 w2) (hsc : Scan w2 (w.heap.size + 2) t)
    (ho : Owns w2 (w.heap.size + 3) 64 2 (.slice p acc.length C) acc.length (tc acc)) (hl : Row w2 w.heap.size 39 ⟨[.slice p acc.length C]⟩)
    (ho3 : Owns w3 0 64 2 (Value.slice p3 (acc.length + 1) C3) (acc.length + 1) (tc acc ++ [.int .i64 (k : Int), .string (S x)])) {o : Obj} (hg : (w2.alloc o).grownBy w3 (Value.ownBlock (Value.slice p acc.length C)))
    (hb : Blk p p3 (acc.length + 1) C C3 (w2.alloc o).heap.size)
    (hall : (toks t).map ((acc ++ [(k, x)]) ++ ·) = toks s) (hfew : acc.length + 1 + t.length ≤ s.length) :
    Wr w3 ⟨w.heap.size, 0, none⟩ ∧ TS w (w3.setCell ⟨w.heap.size, 0, none⟩ (.slice p3 (acc.length + 1) C3)) s t (acc ++ [(k, x)]) := by
  have hs1 := h.size
  have hs2 : w.heap.size + 3 ≤ w2.heap.size := Nat.le_trans hs1 hm.size
  have hst2 : Still w w2 := Mod.trans h.still hm (fun _ h => h) (fun i hi h => by omega)
  have ho3' := ho.pushed hs2 ho3 hb
  have hl3 := hl.pushed ho (Nat.lt_of_lt_of_le (by omega) (Nat.le_refl _)) hg
  have hsc3 := hsc.pushed ho (by omega) hg
  have her2 := h.er.mod hm (by omega)
  have her3 := her2.pushed ho (by omega) hg
  have hst3 : Still w w3 := hst2.pushed ho (by omega) hg
  have hown : ∀ j, (Value.slice p3 (acc.length + 1) C3).ownBlock = some j → w.heap.size + 3 ≤ j := fun j hj => (ho3'.lt j hj).1
  refine ⟨hl3.wr 0 (by simp), ?_⟩
  refine ⟨hsc3.far (by simp) _, ⟨p3, C3, ?_, ?_⟩, her3.far (by simp) _, hst3.setCell (.inr (Nat.le_refl _)) _, ?_, hall, by simp; omega⟩
  · have := hl3.setl 0 (.slice p3 (acc.length + 1) C3)
    simpa using this
  · have := ho3'.far (p := ⟨w.heap.size, 0, none⟩) (fun e => by have := hown _ e; dsimp only at this; omega) (.slice p3 (acc.length + 1) C3)
    rw [tc_append]
    simpa [tc] using this
  · have h1 := hg.size
    simp only [World.size_alloc, World.size_setCell] at h1 ⊢
    omega
theorem fails {w w3 : World} {s : Txt} {R : Ending → World → Prop} (_h20 : ¬ 20000 < s.length) (_hno : toks s = none) (hst : Still w w3) {x : Value} (hl : Row w3 w.heap.size 39 ⟨[x]⟩) {y : Value} (he : Row w3 (w.heap.size + 1) 32 ⟨[y]⟩)
    (hR : ∀ w', Still w w' → R (.returned (.tuple #[.slice none 0 0, .int .i64 80])) w') :
    CallsD Tryz.prog fn_lexer_Tokens_1 #[(.pointer (some (Addr.mk w.heap.size 0 none))), (.pointer (some (Addr.mk (w.heap.size + 1) 0 none)))] (.panicking quoteP) w3 (fun ed1 ux w4 => (∃ rv, ed1 = .returned rv) ∧ settle ux = .returning ∧ ∃ (v4 : Option Addr) (vL1 vC1 : Nat), w4.cell? (Addr.mk w.heap.size 0 none) = some (.slice v4 vL1 vC1) ∧ ∃ v5 : Int, w4.cell? (Addr.mk (w.heap.size + 1) 0 none) = some (.int .i64 v5) ∧ R (.returned (.tuple #[(.slice v4 vL1 vC1), (.int .i64 v5)])) w4) := by
  have hne : w.heap.size ≠ w.heap.size + 1 := by omega
  have he2 := he.drew.far (p := ⟨w.heap.size, 0, none⟩) hne.symm (.slice none 0 0)
  have hl2 := hl.drew.setl 0 (.slice none 0 0)
  refine (tokens_panics ⟨w.heap.size, 0, none⟩ ⟨w.heap.size + 1, 0, none⟩ 80 w3 (hl.wr 0 (by simp)) (he2.wr 0 (by simp))).mono ?_
  rintro _ u w4 ⟨rfl, hu, rfl⟩
  have hl3 := hl2.far (p := ⟨w.heap.size + 1, 0, none⟩) hne (.int .i64 80)
  have he3 := he2.setl 0 (.int .i64 80)
  refine ⟨⟨_, rfl⟩, hu, _, _, _, hl3.cellv rfl, _, he3.cellv rfl, hR _ ?_⟩
  exact (hst.drew.setCell (.inr (Nat.le_refl _)) _).setCell (.inr (Nat.le_succ _)) _
set_option maxHeartbeats 2000000 in
theorem tokens_spec (s : Txt) : Calls Tryz.prog fn_lexer_Tokens #[.string (S s)] w
    (fun e w' => ∃ p C, e = .returned (.tuple #[.slice p (tokRes s).1.length C, .int .i64 (tokRes s).2]) ∧ Owns w' w.heap.size 64 2 (.slice p (tokRes s).1.length C) (tokRes s).1.length (tc (tokRes s).1) ∧ Still w w') := by
  refine lexer_Tokens_calls _ _ _ ?_
  have hl0 : Row (w.alloc (.cells #[(.slice none 0 0)] 39)) w.heap.size 39 ⟨[.slice none 0 0]⟩ := Row.new _ _ _
  have s1 : (w.alloc (.cells #[(.slice none 0 0)] 39)).heap.size = w.heap.size + 1 := World.size_alloc ..
  have he0 : Row ((w.alloc (.cells #[(.slice none 0 0)] 39)).alloc (.cells #[(.int .i64 0)] 32)) (w.heap.size + 1) 32 ⟨[.int .i64 0]⟩ := by
    have := Row.new (w.alloc (.cells #[(.slice none 0 0)] 39)) 32 ⟨[.int .i64 0]⟩
    rwa [s1] at this
  have s2 : ((w.alloc (.cells #[(.slice none 0 0)] 39)).alloc (.cells #[(.int .i64 0)] 32)).heap.size = w.heap.size + 2 := by rw [World.size_alloc, s1]
  have hl1 := hl0.alloc (.cells #[(.int .i64 0)] 32)
  have hst : Still w ((w.alloc (.cells #[(.slice none 0 0)] 39)).alloc (.cells #[(.int .i64 0)] 32)) := ((Mod.refl _ _).alloc _).alloc _
  have hne : w.heap.size ≠ w.heap.size + 1 := by omega
  unfold vc_lexer_Tokens
  rw [s1, s2]
  generalize (w.alloc (.cells #[(.slice none 0 0)] 39)).alloc (.cells #[(.int .i64 0)] 32) = w0 at he0 s2 hl1 hst ⊢
  refine bsel_of (fun h20 => ?_) (fun h20 => ?_)
  · have h20 := of_decide_eq_true h20
    have hres : tokRes s = ([], 2) := by unfold tokRes; rw [if_pos (by omega)]
    rw [hres]
    have he2 := he0.far (p := ⟨w.heap.size, 0, none⟩) hne.symm (.slice none 0 0)
    have hl2 := (hl1.setl 0 (.slice none 0 0)).far (p := ⟨w.heap.size + 1, 0, none⟩) hne (.int .i64 2)
    refine ⟨hl1.wr 0 (by simp), he2.wr 0 (by simp), _, _, _, hl2.cellv rfl, _, (he2.setl 0 (.int .i64 2)).cellv rfl, none, 0, rfl, Owns.nil _ _ _ _, ?_⟩
    exact (hst.setCell (.inr (Nat.le_refl _)) _).setCell (.inr (Nat.le_succ _)) _
  have h20 : ¬ 20000 < s.length := by have := of_decide_eq_false h20; omega
  have hsc0 : Scan (w0.alloc (.cells #[(.string (S s))] 61)) (w.heap.size + 2) s := by
    have := Row.new w0 61 ⟨[.string (S s)]⟩
    rwa [s2] at this
  refine ⟨fun w1 => ∃ s1 acc, TS w w1 s s1 acc, scanLen (w.heap.size + 2), ⟨s, [], hsc0, ⟨none, 0, hl1.alloc _, Owns.nil _ _ _ _⟩, he0.alloc _, hst.alloc _, by rw [World.size_alloc, s2]; exact Nat.le_refl _, by simp, by simp⟩, ?_⟩
  rintro _ w1 ⟨s1, acc, h⟩
  have hst1 := h.still
  have hfew := h.few
  have hown := h.li
  obtain ⟨p, C, hli, ho⟩ := hown
  refine ⟨s1, h.sc.cell, bsel_of (fun hne1 => ?_) (fun hne1 => ?_)⟩
  · have hne1 : s1 ≠ [] := by simpa using hne1
    obtain ⟨a, r, rfl⟩ := List.exists_cons_of_ne_nil hne1
    simp only [List.length_cons] at hfew
    have hall := h.all
    rw [toks_cons] at hall
    have hlen1 : scanLen (w.heap.size + 2) w1 = r.length + 1 := by rw [h.sc.len]; rfl
    rw [hlen1]
    -- nothing is told here
    have quiet : ∀ (t : Txt) (w3 : World), t.length ≤ r.length → tokOne a r = some ([], t) → Only (w.heap.size + 2) w1 w3 → Scan w3 (w.heap.size + 2) t → (∃ s1 acc, TS w w3 s s1 acc) ∧ scanLen (w.heap.size + 2) w3 < r.length + 1 := by
      intro t w3 ht hone hm hsc
      refine ⟨⟨t, acc, hsc, ⟨p, C, hli.mod hm (by omega), ho.mod hm (fun k hk => by have := (ho.lt k hk).1; omega)⟩, h.er.mod hm (by omega), Mod.trans hst1 hm (fun _ h => h) (fun i hi h => by omega), Nat.le_trans h.size hm.size, ?_, by omega⟩, by rw [hsc.len]; omega⟩
      rw [hone] at hall
      simpa using hall
    -- a token is told here
    have told : ∀ (k : Nat) (x t : Txt), tokOne a r = some ([(k, x)], t) → (toks t).map ((acc ++ [(k, x)]) ++ ·) = toks s := by
      intro k x t hone
      rw [hone] at hall
      have h2 : (toks t).map ((acc ++ [(k, x)]) ++ ·) = Option.map (fun y => acc ++ y) (Option.map (fun y => [(k, x)] ++ y) (toks t)) := by
        cases toks t <;> simp
      rw [h2]
      exact hall
    refine ⟨_, h.sc.cell, by decide, a, rfl, fun x w2 => x = decide (a = 32 ∨ a = 9) ∧ w2 = w1, bsel_of (fun h32 => ⟨?_, rfl⟩) (fun h32 => ⟨?_, rfl⟩), ?_⟩
    · have h32 : a = 32 := byte_eq.1 (of_decide_eq_true h32)
      rw [decide_eq_true (.inl h32)]
    · have h32 : ¬ a = 32 := fun e => of_decide_eq_false h32 (byte_eq.2 e)
      apply decide_eq_decide.2
      exact ⟨fun h => .inr (byte_eq.1 h), fun h => h.elim (fun h => absurd h h32) (fun h => byte_eq.2 h)⟩
    rintro _ _ w2 ⟨rfl, rfl⟩
    refine bsel_of (fun hbl => ?_) (fun hbl => bsel_of (fun h35 => ?_) (fun h35 => bsel_of (fun h10 => ?_) (fun h10 => ?_)))
    · have hbl := of_decide_eq_true hbl
      refine (skip_spec h.sc 1).mono fun e w3 ht => ?_
      rw [if_pos (by simp)] at ht
      obtain ⟨hm3, rfl, h3⟩ := ht
      exact .inl ⟨rfl, quiet r w3 (Nat.le_refl _) (by unfold tokOne; rw [if_pos hbl]) hm3 h3⟩
    · have hbl := of_decide_eq_false hbl
      have h35 : a = 35 := byte_eq.1 (of_decide_eq_true h35)
      refine (lexcomment_spec h.sc).mono ?_
      rintro _ w3 ⟨hm3, rfl, h3⟩
      have hle : lineEnd (a :: r) = lineEnd r := by
        rw [h35]
        rfl
      rw [hle] at h3
      exact .inl ⟨rfl, quiet (lineEnd r) w3 (lineEnd_length r) (by unfold tokOne; rw [if_neg hbl, if_pos h35]) hm3 h3⟩
    · have hbl := of_decide_eq_false hbl
      have h35 : ¬ a = 35 := fun e => of_decide_eq_false h35 (byte_eq.2 e)
      have h10 : a = 10 := byte_eq.1 (of_decide_eq_true h10)
      refine (skip_spec h.sc 1).mono fun e w3 ht => ?_
      rw [if_pos (by simp)] at ht
      obtain ⟨hm3, rfl, h3⟩ := ht
      have hl3 := hli.mod hm3 (by omega)
      have ho3 := ho.mod hm3 (fun k hk => by have := (ho.lt k hk).1; omega)
      refine .inl ⟨rfl, _, _, _, hl3.cellv rfl, tc acc, [.int .i64 2, .string (S [10])], (ho3.alloc _).base0, rfl, two_one, pair_src _ _ _ _, by omega, by omega, fun p3 C3 w4 ho4 hg4 hb4 => ?_⟩
      obtain ⟨hwr, hts⟩ := h.pushed (k := 2) (x := [10]) (t := r) hm3 h3 ho3 hl3 ho4 hg4 hb4 (told 2 [10] r (by unfold tokOne; rw [if_neg hbl, if_neg h35, if_pos h10])) (by omega)
      refine ⟨hwr, ⟨_, _, hts⟩, ?_⟩
      rw [hts.sc.len]
      omega
    · have hbl := of_decide_eq_false hbl
      have h35 : ¬ a = 35 := fun e => of_decide_eq_false h35 (byte_eq.2 e)
      have h10 : ¬ a = 10 := fun e => of_decide_eq_false h10 (byte_eq.2 e)
      refine (lexends_spec h.sc).mono ?_
      rintro _ w3 ⟨rfl, rfl⟩
      refine .inl ⟨_, rfl, bsel_of (fun hend => ?_) (fun hend => ?_)⟩
      · have hend : isEnd a = true := hend
        refine ⟨fun wq => Row wq w.heap.size 39 ⟨[.slice p acc.length C]⟩, hli.drew, _, _, _, fun wq hq => hq.cellv rfl, (lexop_spec h.sc.drew (List.cons_ne_nil _ _)).mono ?_⟩
        rintro _ w4 ⟨hm4, rfl, h4⟩
        have hm4' : Only (w.heap.size + 2) w3 w4 := Mod.trans (Mod.refl (fun i => i = w.heap.size + 2) w3).drew hm4 (fun _ h => h) (fun _ _ h => h)
        have hl4 := hli.mod hm4' (by omega)
        have ho4 := ho.mod hm4' (fun k hk => by have := (ho.lt k hk).1; omega)
        have hol := opLen_le (a := a) (r := r)
        refine .inl ⟨_, rfl, hl4, hl4.alloc _, tc acc, [.int .i64 1, .string (S ((a :: r).take (opLen (a :: r))))], (ho4.alloc _).base0, rfl, two_one, pair_src _ _ _ _, by omega, by omega, fun p3 C3 w5 ho5 hg5 hb5 => ?_⟩
        have hdl : ((a :: r).drop (opLen (a :: r))).length + opLen (a :: r) = r.length + 1 := by
          rw [List.length_drop]
          simp only [List.length_cons] at hol ⊢
          omega
        obtain ⟨hwr, hts⟩ := h.pushed (k := 1) (x := (a :: r).take (opLen (a :: r))) (t := (a :: r).drop (opLen (a :: r))) hm4' h4 ho4 hl4 ho5 hg5 hb5 (told 1 _ _ (by unfold tokOne; rw [if_neg hbl, if_neg h35, if_neg h10, if_pos hend])) (by omega)
        refine ⟨hwr, ⟨_, _, hts⟩, ?_⟩
        rw [hts.sc.len]
        omega
      · have hend : isEnd a = false := hend
        refine ⟨fun wq => Row wq w.heap.size 39 ⟨[.slice p acc.length C]⟩, hli.drew, _, _, _, fun wq hq => hq.cellv rfl, (lexword_spec h.sc.drew (by simp only [List.length_cons]; omega)).mono ?_⟩
        rintro e w4 ⟨hm4, hw⟩
        have hm4' : Only (w.heap.size + 2) w3 w4 := Mod.trans (Mod.refl (fun i => i = w.heap.size + 2) w3).drew hm4 (fun _ h => h) (fun _ _ h => h)
        have hl4 := hli.mod hm4' (by omega)
        have ho4 := ho.mod hm4' (fun k hk => by have := (ho.lt k hk).1; omega)
        have he4 := h.er.mod hm4' (by omega)
        have hst4 : Still w w4 := Mod.trans hst1 hm4' (fun _ h => h) (fun i hi h => by omega)
        have hone : tokOne a r = match wordD (a :: r) with
          | some t => some ([(0, (a :: r).take ((a :: r).length - t.length))], t)
          | none => none := by
          unfold tokOne
          rw [if_neg hbl, if_neg h35, if_neg h10, if_neg (by rw [hend]; decide)]
        cases hwd : wordD (a :: r) with
        | none =>
          rw [hwd] at hw hone
          obtain ⟨rfl, _⟩ := hw
          rw [hone] at hall
          have hno : toks s = none := by rw [← hall]; rfl
          have hres : tokRes s = ([], 80) := by unfold tokRes; rw [if_neg h20, hno]
          rw [hres]
          refine .inr ⟨_, rfl, fails (R := fun e w' => ∃ p C, e = .returned (.tuple #[.slice p (([], 80) : List Tok × Int).1.length C, .int .i64 (([], 80) : List Tok × Int).2]) ∧ Owns w' w.heap.size 64 2 (.slice p (([], 80) : List Tok × Int).1.length C) (([], 80) : List Tok × Int).1.length (tc (([], 80) : List Tok × Int).1) ∧ Still w w') h20 hno hst4 hl4 he4 fun w' h' => ⟨none, 0, rfl, Owns.nil _ _ _ _, h'⟩⟩
        | some t =>
          rw [hwd] at hw hone
          obtain ⟨rfl, h4, _⟩ := hw
          have htl := wordD_length (s := a :: r) (by simpa [endsB] using hend) hwd
          simp only [List.length_cons] at htl
          refine .inl ⟨_, rfl, hl4, hl4.alloc _, tc acc, [.int .i64 0, .string (S ((a :: r).take ((a :: r).length - t.length)))], (ho4.alloc _).base0, rfl, two_one, pair_src _ _ _ _, by omega, by omega, fun p3 C3 w5 ho5 hg5 hb5 => ?_⟩
          obtain ⟨hwr, hts⟩ := h.pushed (k := 0) (x := (a :: r).take ((a :: r).length - t.length)) (t := t) hm4' h4 ho4 hl4 ho5 hg5 hb5 (told 0 _ _ hone) (by omega)
          refine ⟨hwr, ⟨_, _, hts⟩, ?_⟩
          rw [hts.sc.len]
          omega
  · have hne1 : s1 = [] := by simpa using hne1
    subst hne1
    have hall : toks s = some acc := by rw [← h.all]; simp [toks_nil]
    have hres : tokRes s = (acc, 0) := by unfold tokRes; rw [if_neg h20, hall]
    rw [hres]
    have hl2 := hli.setl 0 (.slice p acc.length C)
    have he2 := h.er.far (p := ⟨w.heap.size, 0, none⟩) hne.symm (.slice p acc.length C)
    have hown : ∀ k, (Value.slice p acc.length C).ownBlock = some k → w.heap.size + 3 ≤ k := fun k hk => (ho.lt k hk).1
    refine ⟨p, acc.length, C, hli.cellv rfl, hli.wr 0 (by simp), he2.wr 0 (by simp), (tokens_idle _ _ _).mono ?_⟩
    rintro _ u w4 ⟨rfl, rfl, rfl⟩
    have hl3 := hl2.far (p := ⟨w.heap.size + 1, 0, none⟩) hne (.int .i64 0)
    refine ⟨⟨_, rfl⟩, rfl, p, acc.length, C, hl3.cellv rfl, 0, (he2.setl 0 (.int .i64 0)).cellv rfl, p, C, rfl, ?_, (hst1.setCell (.inr (Nat.le_refl _)) _).setCell (.inr (Nat.le_succ _)) _⟩
    have o1 := ho.far (p := ⟨w.heap.size, 0, none⟩) (fun e => by have := hown _ e; dsimp only at this; omega) (.slice p acc.length C)
    have o2 := o1.far (p := ⟨w.heap.size + 1, 0, none⟩) (fun e => by have := hown _ e; dsimp only at this; omega) (.int .i64 0)
    exact o2.base (fun k hk => by have := hown k hk; omega)
end Go.Proofs.YtcoeiiihmpnagaaGreatDoor
namespace Go.Proofs.YtcoeiiihmpnagaaGreatDoor
open Go.RowKit Vc
theorem wordL_ends : ∀ n, Ends (wordL n)
  | 0 => fun s t h => by cases h
  | n + 1 => by
    intro s t h
    rw [wordL] at h
    split at h
    · obtain rfl := Option.some.inj h; exact List.suffix_refl _
    · split at h
      · rename_i x hx
        exact (wordL_ends n _ _ h).trans (unitD_ends 30 _ _ hx)
      · cases h
theorem tokOne_view {a : UInt8} {r t : Txt} {l : List Tok} (h : tokOne a r = some (l, t)) :
    ((a = 32 ∨ a = 9) ∧ l = [] ∧ t = r) ∨ (a = 35 ∧ l = [] ∧ t = lineEnd r) ∨ (a = 10 ∧ l = [(2, [10])] ∧ t = r) ∨
    ((¬ (a = 32 ∨ a = 9) ∧ ¬ a = 35 ∧ ¬ a = 10) ∧ isEnd a = true ∧ l = [(1, (a :: r).take (opLen (a :: r)))] ∧ t = (a :: r).drop (opLen (a :: r))) ∨
    ((¬ (a = 32 ∨ a = 9) ∧ ¬ a = 35 ∧ ¬ a = 10) ∧ isEnd a = false ∧ ∃ p, p ≠ [] ∧ a :: r = p ++ t ∧ wordD (p ++ t) = some t ∧ l = [(0, p)]) := by
  unfold tokOne at h
  by_cases h1 : a = 32 ∨ a = 9
  · rw [if_pos h1] at h
    obtain ⟨rfl, rfl⟩ := Prod.mk.injEq .. ▸ Option.some.inj h
    exact .inl ⟨h1, rfl, rfl⟩
  rw [if_neg h1] at h
  by_cases h2 : a = 35
  · rw [if_pos h2] at h
    obtain ⟨rfl, rfl⟩ := Prod.mk.injEq .. ▸ Option.some.inj h
    exact .inr (.inl ⟨h2, rfl, rfl⟩)
  rw [if_neg h2] at h
  by_cases h3 : a = 10
  · rw [if_pos h3] at h
    obtain ⟨rfl, rfl⟩ := Prod.mk.injEq .. ▸ Option.some.inj h
    exact .inr (.inr (.inl ⟨h3, rfl, rfl⟩))
  rw [if_neg h3] at h
  by_cases h4 : isEnd a = true
  · rw [if_pos h4] at h
    obtain ⟨rfl, rfl⟩ := Prod.mk.injEq .. ▸ Option.some.inj h
    exact .inr (.inr (.inr (.inl ⟨⟨h1, h2, h3⟩, h4, rfl, rfl⟩)))
  rw [if_neg h4] at h
  have h4 : isEnd a = false := by simpa using h4
  refine .inr (.inr (.inr (.inr ⟨⟨h1, h2, h3⟩, h4, ?_⟩)))
  split at h
  · rename_i t' ht
    obtain ⟨rfl, rfl⟩ := Prod.mk.injEq .. ▸ Option.some.inj h
    obtain ⟨p, hp⟩ := wordL_ends _ _ _ ht
    have hlen := wordD_length (s := a :: r) h4 ht
    refine ⟨p, ?_, hp.symm, by rw [hp]; exact ht, ?_⟩
    · rintro rfl
      rw [← hp] at hlen
      simp at hlen
    · rw [← hp]
      simp
  · cases h
theorem map_nil (o : Option (List Tok)) : o.map (([] : List Tok) ++ ·) = o := by
  cases o <;> simp
end Go.Proofs.YtcoeiiihmpnagaaGreatDoor
namespace Go.Proofs.YtcoeiiihmpnagaaGreatDoor
open Go.RowKit Vc
variable {w : World}
abbrev pagg (x : Pt) (v : Value) : Value := .agg #[.int .i64 x.k, .bool x.q, .string (S x.t), .string (S x.n), .string (S x.o), v]
theorem Owns.store {B : Nat} {e : TypeId} {sz n c g i : Nat} {xs : List Value} {u : Value} {K : World → Prop} (h : Owns w B e sz (.slice (some ⟨g, 0, none⟩) n c) n xs) (hi : i < n * sz) (hu : u.oneCell' = true)
    (hK : ∀ w', Owns w' B e sz (.slice (some ⟨g, 0, none⟩) n c) n (xs.set i u) → Mod (fun k => k = g) w w' → w'.heap.size = w.heap.size → K w') : stCells ((Addr.mk g 0 none).add i) K 0 [u] w := by
  obtain ⟨h1, ⟨he, hn⟩ | ⟨g', cap, cur, he, hB, hr, hc, hm, hs, ht⟩⟩ := h
  · cases he
  · injection he with e1 e2 e3
    injection e1 with e1
    injection e1 with e1
    subst e1 e3
    rw [add_row, Nat.zero_add]
    have hr' : Row w g e ⟨cur.toList⟩ := hr
    have hlen : cur.toList.length = c * sz := by rw [Array.length_toList]; exact hs
    have hle : n * sz ≤ c * sz := Nat.mul_le_mul_right sz hc
    refine stK hr' (by simp only [List.length_cons, List.length_nil]; omega) (by simpa using hu) fun w' r' m' z' => hK w' ⟨by rw [List.length_set]; exact h1, .inr ⟨g, c, _, rfl, hB, r', hc, hm, ?_, ?_⟩⟩ m' z'
    · simp only [ovw, List.size_toArray, List.length_set]
      exact hlen
    · simp only [ovw]
      rw [← ht, List.take_set]
theorem SlAt.cells {F : Nat → Prop} {l : List Pt} {p : Option Addr} {n c : Nat} (h : SlAt w F l (.slice p n c)) : ∃ xs, Cs w F l xs ∧ At w p n xs := by
  obtain ⟨p', c', he, h2, h3⟩ := h
  injection he with e1 e2 e3
  subst e1 e2 e3
  by_cases hl : l = []
  · subst hl
    exact ⟨[], rfl, fun h => absurd h (Nat.lt_irrefl _)⟩
  · obtain ⟨b, rfl, h4, h5⟩ := h3 hl
    obtain ⟨xs, h6, h7⟩ := Cs.to h5
    exact ⟨xs, h6, fun _ => ⟨b, rfl, h7⟩⟩
theorem drew_still (w : World) : Still w w.drew := (Still.refl w).toDrew
theorem box_fields {g : Nat} {x : Pt} {v : Value} (h : Row w g 73 ⟨pcell x v⟩) : w.cell? ⟨g, 0, none⟩ = some (.int .i64 x.k) ∧ w.cell? ⟨g, 1, none⟩ = some (.bool x.q) ∧ w.cell? ⟨g, 2, none⟩ = some (.string (S x.t)) ∧ w.cell? ⟨g, 3, none⟩ = some (.string (S x.n)) ∧ w.cell? ⟨g, 4, none⟩ = some (.string (S x.o)) ∧ w.cell? ⟨g, 5, none⟩ = some v :=
  ⟨h.lget rfl, h.lget rfl, h.lget rfl, h.lget rfl, h.lget rfl, h.lget rfl⟩
def AddBody (gx : Nat) (w1 : World) (l : Option Addr) (lL lC : Nat) (R : Ending → World → Prop) : Prop :=
  ∃ xJ : World → Prop, (∃ xJ1 : Bool → World → Prop, (bsel (decide ((0 : Int) ≤ (IntKind.i64.wrap ((((lL : Nat) : Int) : Int) - (1 : Int))))) (∃ v : Int, w1.cell? (Addr.mk gx 0 none) = some (.int .i64 v) ∧ bsel (decide (v = (0 : Int))) (0 ≤ (IntKind.i64.wrap ((((lL : Nat) : Int) : Int) - (1 : Int))) ∧ (IntKind.i64.wrap ((((lL : Nat) : Int) : Int) - (1 : Int))) < (lL : Nat) ∧ someK l (fun a => ∃ v1 : Int, w1.cell? (a.add (Int.toNat (IntKind.i64.wrap ((((lL : Nat) : Int) : Int) - (1 : Int))) * 6)) = some (.int .i64 v1) ∧ bsel (decide (v1 = (0 : Int))) (0 ≤ (IntKind.i64.wrap ((((lL : Nat) : Int) : Int) - (1 : Int))) ∧ (IntKind.i64.wrap ((((lL : Nat) : Int) : Int) - (1 : Int))) < (lL : Nat) ∧ someK l (fun a1 => ∃ v2 : Bool, w1.cell? ((a1.add (Int.toNat (IntKind.i64.wrap ((((lL : Nat) : Int) : Int) - (1 : Int))) * 6)).add 1) = some (.bool v2) ∧ ∃ v3 : Bool, w1.cell? (Addr.mk gx 1 none) = some (.bool v3) ∧ xJ1 (decide (v2 = v3)) w1.drew)) (xJ1 false w1.drew))) (xJ1 false w1.drew)) (xJ1 false w1.drew)) ∧ ∀ (x : Bool) (_us1 : Nat → Value) (w2 : World), (xJ1 x w2) → bsel x (∃ Sw : World → Prop, Sw w2.drew ∧ 0 ≤ (IntKind.i64.wrap ((((lL : Nat) : Int) : Int) - (1 : Int))) ∧ (IntKind.i64.wrap ((((lL : Nat) : Int) : Int) - (1 : Int))) < (lL : Nat) ∧ someK l (fun a2 => ∃ v4 : List UInt8, (∀ wq : World, Sw wq → wq.cell? ((a2.add (Int.toNat (IntKind.i64.wrap ((((lL : Nat) : Int) : Int) - (1 : Int))) * 6)).add 2) = some (.string (S v4))) ∧ ∃ v5 : List UInt8, (∀ wq : World, Sw wq → wq.cell? (Addr.mk gx 2 none) = some (.string (S v5))) ∧ v4.length + v5.length ≤ 9223372036854775807 ∧ 0 ≤ (IntKind.i64.wrap ((((lL : Nat) : Int) : Int) - (1 : Int))) ∧ (IntKind.i64.wrap ((((lL : Nat) : Int) : Int) - (1 : Int))) < (lL : Nat) ∧ someK l (fun a3 => stCells ((a3.add (Int.toNat (IntKind.i64.wrap ((((lL : Nat) : Int) : Int) - (1 : Int))) * 6)).add 2) (fun (w3 : World) => R (.returned (.slice l lL lC)) w3) 0 [(.string (S (v4 ++ v5)))] w2.drew))) (xJ w2)) ∧ ∀ (_us2 : Nat → Value) (w4 : World), (xJ w4) → ∃ vKind : Int, ∃ vQuoted : Bool, ∃ vText : List UInt8, ∃ vName : List UInt8, ∃ vOp : List UInt8, ∃ (vWord : Option Addr) (vWordL vWordC : Nat), w4.cell? (Addr.mk gx 0 none) = some (.int .i64 vKind) ∧ w4.cell? (Addr.mk gx 1 none) = some (.bool vQuoted) ∧ w4.cell? (Addr.mk gx 2 none) = some (.string (S vText)) ∧ w4.cell? (Addr.mk gx 3 none) = some (.string (S vName)) ∧ w4.cell? (Addr.mk gx 4 none) = some (.string (S vOp)) ∧ w4.cell? (Addr.mk gx 5 none) = some (.slice vWord vWordL vWordC) ∧ letW (w4.alloc (.cells #[(.int .i64 vKind), (.bool vQuoted), (.string (S vText)), (.string (S vName)), (.string (S vOp)), (.slice vWord vWordL vWordC)] 73)) (fun (w5 : World) => appK w5 73 6 88 l lL lC (some (Addr.mk w4.heap.size 0 none)) 1 (fun (p : Option Addr) (cp : Nat) (w6 : World) => R (.returned (.slice p (lL + 1) cp)) w6))
theorem addBody_spec {w1 : World} {gx B : Nat} {l : List Pt} {p : Option Addr} {c : Nat} {x : Pt} {wp : Option Addr} {wc : Nat} {R : Ending → World → Prop} (r1 : Row w1 gx 73 ⟨pcell x (.slice wp x.w.length wc)⟩) (ho : OutAt w1 B l (.slice p l.length c)) (hB : B ≤ w1.heap.size)
    (hw : SlAt w1 (fun k => B ≤ k ∧ k < w1.heap.size ∧ (Value.slice p l.length c).ownBlock ≠ some k) x.w (.slice wp x.w.length wc)) (hl : wtL l + x.wt < 1000000000)
    (hR : ∀ v' w', OutAt w' B (addP l x) v' → Mod (fun k => (Value.slice p l.length c).ownBlock = some k) w1 w' → (∀ k, v'.ownBlock = some k → (Value.slice p l.length c).ownBlock = some k ∨ w1.heap.size ≤ k) → R (.returned v') w') : AddBody gx w1 p l.length c R := by
  obtain ⟨p', c', xs, hv, hown, hcs⟩ := ho
  injection hv with hv1 _ hv2
  subst hv1 hv2
  have hwl := wtL_len l
  obtain ⟨f0, f1, f2, f3, f4, f5⟩ := box_fields (x := x) r1
  have sd : Still w1 w1.drew := drew_still w1
  -- what stands behind is put in a new place
  have push : (∀ y ∈ l.getLast?, ¬ Mg y x) → ∀ w4 : World, w4 = w1.drew →
      letW (w4.alloc (.cells ⟨pcell x (.slice wp x.w.length wc)⟩ 73)) (fun w5 => appK w5 73 6 88 p l.length c (some (Addr.mk w4.heap.size 0 none)) 1 (fun p' cp w6 => R (.returned (.slice p' (l.length + 1) cp)) w6)) := by
    rintro hno _ rfl
    have hadd : addP l x = l ++ [x] := by
      by_cases hl : l = []
      · subst hl; rfl
      · obtain ⟨m, y, rfl⟩ := snoc_of hl
        rw [addP_snoc, if_neg (show ¬ (x.k = 0 ∧ y.k = 0 ∧ y.q = x.q) from hno y (by simp))]
    refine allocK fun w5 r5 s5 z5 => ?_
    have s05 := sd.trans s5
    refine appK_push (hown.still s05) (by have := s05.size; omega) (pcell x (.slice wp x.w.length wc)) rfl (pcell_one rfl) (fun _ => ⟨_, rfl, fun j u hu => ?_⟩) (by omega) (by omega) fun p' c' w6 ho6 hm6 hbk => ?_
    · rw [add_row, Nat.zero_add]
      exact r5.lget hu
    · have hm06 : Mod (fun k => (Value.slice p l.length c).ownBlock = some k) w1 w6 := Mod.trans s05 hm6 (fun _ h => h.elim) (fun _ _ h => h)
      have hz5 : w1.heap.size ≤ w5.heap.size := s05.size
      have hown' : ∀ k, (Value.slice p' (l.length + 1) c').ownBlock = some k → (Value.slice p l.length c).ownBlock = some k ∨ w5.heap.size ≤ k := by
        intro k hk
        rcases hbk.own (n := l.length) with e | e
        · exact .inl (by rw [← e]; exact hk)
        · rw [hk] at e
          obtain rfl := Option.some.inj e
          exact .inr (Nat.le_refl _)
      refine hR _ _ ?_ hm06 fun k hk => (hown' k hk).imp_right fun h => by omega
      rw [hadd]
      refine ⟨p', c', _, by rw [List.length_append]; rfl, by rw [List.length_append]; exact ho6, ?_⟩
      have tr : ∀ {y : List Pt} {u : Value}, SlAt w1 (fun k => B ≤ k ∧ k < w1.heap.size ∧ (Value.slice p l.length c).ownBlock ≠ some k) y u → SlAt w6 (fun k => B ≤ k ∧ k < w6.heap.size ∧ (Value.slice p' (l.length + 1) c').ownBlock ≠ some k) y u := by
        intro y u h
        refine (h.mod hm06 fun k hk => hk.2.2).mono fun k hk => ⟨hk.1, Nat.lt_of_lt_of_le hk.2.1 hm06.size, fun e => ?_⟩
        rcases hown' k e with e | e
        · exact hk.2.2 e
        · omega
      exact (hcs.turn tr).snoc (tr hw)
  by_cases hl0 : l = []
  · subst hl0
    have e1 : IntKind.i64.wrap ((((([] : List Pt).length : Nat) : Int) : Int) - 1) = -1 := by decide
    unfold AddBody
    rw [e1]
    refine ⟨fun w4 => w4 = w1.drew, ⟨fun b w2 => b = false ∧ w2 = w1.drew, bsel_of (fun h => absurd h (by decide)) (fun _ => ⟨rfl, rfl⟩), ?_⟩, ?_⟩
    · rintro _ _ w2 ⟨rfl, rfl⟩
      exact rfl
    · rintro _ _ rfl
      obtain ⟨f0, f1, f2, f3, f4, f5⟩ := box_fields (x := x) (r1.still (drew_still w1))
      exact ⟨_, _, _, _, _, _, _, _, f0, f1, f2, f3, f4, f5, push (by simp) _ rfl⟩
  · obtain ⟨m, y, rfl⟩ := snoc_of hl0
    have hlen : (m ++ [y]).length = m.length + 1 := by simp
    obtain ⟨ys, vy, hxs, hcm, hvy⟩ := hcs.last
    have hyl : ys.length = m.length * 6 := hcm.len
    obtain ⟨g, cap, he, hgB, hgl, hcap, hcell⟩ := hown.ownAddr (by omega)
    injection he with e1 e2 e3
    subst e1 e3
    have e1 : IntKind.i64.wrap ((((m ++ [y]).length : Nat) : Int) - 1) = (m.length : Int) := by rw [hlen, wrap_i64 (by omega) (by omega)]; omega
    have ycell : ∀ (w' : World), Still w1 w' → ∀ j u, (pcell y vy)[j]? = some u → w'.cell? (((Addr.mk g 0 none).add (m.length * 6)).add j) = some u := by
      intro w' hs j u hu
      rw [adds, add_row, Nat.zero_add]
      refine hs.cell (hcell _ _ ?_)
      rw [hxs, List.getElem?_append_right (by rw [hyl]; omega), hyl, Nat.add_sub_cancel_left]
      exact hu
    have a0 : ∀ a : Addr, a.add 0 = a := by intro a; unfold Addr.add; simp
    have y0 := ycell w1 (Still.refl _) 0 _ rfl
    rw [a0] at y0
    unfold AddBody
    rw [e1]
    refine ⟨fun w4 => w4 = w1.drew ∧ ¬ Mg y x, ⟨fun b w2 => (b = true ↔ Mg y x) ∧ w2 = w1.drew, bsel_of (fun _ => ⟨x.k, f0, bsel_of (fun hk => ?_) (fun hk => ⟨?_, rfl⟩)⟩) (fun h => absurd (of_decide_eq_false h) (by omega)), ?_⟩, ?_⟩
    · have hk : x.k = 0 := of_decide_eq_true hk
      refine ⟨by omega, by omega, y.k, by rw [Int.toNat_natCast]; exact y0, bsel_of (fun hy => ?_) (fun hy => ⟨?_, rfl⟩)⟩
      · have hy : y.k = 0 := of_decide_eq_true hy
        refine ⟨by omega, by omega, y.q, by rw [Int.toNat_natCast]; exact ycell w1 (Still.refl _) 1 _ rfl, x.q, f1, ?_, rfl⟩
        rw [decide_eq_true_eq]
        exact ⟨fun e => ⟨hk, hy, e⟩, fun e => e.2.2⟩
      · have hy : ¬ y.k = 0 := of_decide_eq_false hy
        exact ⟨fun e => (by cases e), fun e => absurd e.2.1 hy⟩
    · have hk : ¬ x.k = 0 := of_decide_eq_false hk
      exact ⟨fun e => (by cases e), fun e => absurd e.1 hk⟩
    · rintro b _ w2 ⟨hb, rfl⟩
      refine bsel_of (fun h => ?_) (fun h => ?_)
      · have hm := hb.1 h
        have f2' := (r1.still ((drew_still w1).trans (drew_still w1.drew))).lget (i := 2) rfl
        have hty := wtL_append m [y]
        rw [wtL_one, y.wt_eq] at hty
        have hx2 := x.wt_eq
        refine ⟨fun wq => wq = w1.drew.drew, rfl, by omega, by omega, y.t, ?_, x.t, ?_, by omega, by omega, by omega, ?_⟩
        · rintro wq rfl
          rw [Int.toNat_natCast]
          exact ycell _ (sd.trans (drew_still w1.drew)) 2 _ rfl
        · rintro wq rfl
          exact f2'
        · rw [Int.toNat_natCast, someK_some, adds]
          have so : Still w1 w1.drew.drew := sd.toDrew
          refine Owns.store (hown.still so) (by omega) rfl fun w' ho' hm' hz' => hR _ _ ?_ ?_ fun k hk => .inl hk
          · rw [addP_snoc, if_pos (show x.k = 0 ∧ y.k = 0 ∧ y.q = x.q from hm)]
            have hset : xs.set (m.length * 6 + 2) (.string (S (y.t ++ x.t))) = ys ++ pcell (.mk y.k y.q (y.t ++ x.t) y.n y.o y.w) vy := by
              rw [hxs, List.set_append_right _ _ (by rw [hyl]; omega), hyl, Nat.add_sub_cancel_left]
              rfl
            rw [hset] at ho'
            have hmo : Mod (fun k => k = g) w1 w' := Mod.trans so hm' (fun _ h => h.elim) (fun _ _ h => h)
            have tr : ∀ {z : List Pt} {u : Value}, SlAt w1 (fun k => B ≤ k ∧ k < w1.heap.size ∧ (Value.slice (some ⟨g, 0, none⟩) (m ++ [y]).length c).ownBlock ≠ some k) z u → SlAt w' (fun k => B ≤ k ∧ k < w'.heap.size ∧ (Value.slice (some ⟨g, 0, none⟩) (m ++ [y]).length c).ownBlock ≠ some k) z u := by
              intro z u h
              refine (h.mod hmo fun k hk e => hk.2.2 (by rw [e]; simp [Value.ownBlock])).mono fun k hk => ⟨hk.1, Nat.lt_of_lt_of_le hk.2.1 hmo.size, hk.2.2⟩
            have hlen2 : (m ++ [Pt.mk y.k y.q (y.t ++ x.t) y.n y.o y.w]).length = (m ++ [y]).length := by simp
            exact ⟨some ⟨g, 0, none⟩, c, _, by rw [hlen2], by rw [hlen2]; exact ho', (hcm.turn tr).snoc (tr hvy)⟩
          · exact Mod.trans so hm' (fun _ h => h.elim) (fun k _ e => by rw [e]; simp [Value.ownBlock])
      · exact ⟨rfl, fun hm => by rw [hb.2 hm] at h; cases h⟩
    · rintro _ _ ⟨rfl, hno⟩
      obtain ⟨f0, f1, f2, f3, f4, f5⟩ := box_fields (x := x) (r1.still (drew_still w1))
      exact ⟨_, _, _, _, _, _, _, _, f0, f1, f2, f3, f4, f5, push (by simpa using hno) _ rfl⟩
theorem add_spec {B : Nat} {l : List Pt} {v : Value} {x : Pt} {vw : Value} (ho : OutAt w B l v) (hB : B ≤ w.heap.size) (hw : SlAt w (fun k => B ≤ k ∧ k < w.heap.size ∧ v.ownBlock ≠ some k) x.w vw) (hl : wtL l + x.wt < 1000000000) :
    Calls Tryz.prog fn_word_add #[v, pagg x vw] w (fun e w' => ∃ v', e = .returned v' ∧ OutAt w' B (addP l x) v' ∧ Mod (fun k => v.ownBlock = some k) w w' ∧ ∀ k, v'.ownBlock = some k → v.ownBlock = some k ∨ w.heap.size ≤ k) := by
  have ho' := ho
  obtain ⟨p, c, xs, rfl, hown, hcs⟩ := ho
  obtain ⟨wp, wc, rfl⟩ := hw.form
  refine word_add_calls _ _ _ _ _ _ _ _ _ _ _ _ _ ?_
  refine allocK fun w1 r1 s1 z1 => ?_
  have key : AddBody w.heap.size w1 p l.length c (fun e w' => ∃ v', e = .returned v' ∧ OutAt w' B (addP l x) v' ∧ Mod (fun k => (Value.slice p l.length c).ownBlock = some k) w w' ∧ ∀ k, v'.ownBlock = some k → (Value.slice p l.length c).ownBlock = some k ∨ w.heap.size ≤ k) :=
    addBody_spec (x := x) r1 (ho'.still s1) (by omega) ((hw.still s1).mono fun k hk => ⟨hk.1, by omega, hk.2.2⟩) hl fun v' w' h1 h2 h3 => ⟨v', rfl, h1, Mod.trans s1 h2 (fun _ h => h.elim) (fun _ _ h => h), fun k hk => (h3 k hk).imp_right fun h => by omega⟩
  exact key
theorem ref_Add_spec {l : List Pt} {v : Value} {x : Pt} {vw : Value} {N : Nat} (ho : SlAt w (fun k => N ≤ k) l v) (hN : N ≤ w.heap.size) (hw : SlAt w (fun k => N ≤ k) x.w vw) (hl : wtL l + x.wt < 1000000000) :
    Calls Tryz.prog fn_ref08_Add #[v, pagg x vw] w (fun e w' => ∃ v', e = .returned v' ∧ SlAt w' (fun k => N ≤ k) (addP l x) v' ∧ Still w w') := by
  obtain ⟨p, c, rfl⟩ := ho.form
  obtain ⟨wp, wc, rfl⟩ := hw.form
  have hwl := wtL_len l
  refine ref08_Add_calls _ _ _ _ _ _ _ _ _ _ _ _ _ ?_
  refine allocK fun w1 r1 s1 z1 => ?_
  obtain ⟨xs, hcs, hat⟩ := (ho.still s1).cells
  have hn : xs.length = l.length * 6 := hcs.len
  refine appK_push (B := w1.heap.size) (Owns.nil w1 _ _ 6) (Nat.le_refl _) xs hn hcs.one hat (by omega) (by omega) fun p' c' w2 ho2 hm2 hbk => ?_
  have s2 : Still w1 w2 := Mod.weaken hm2 fun k h => by cases h
  rw [List.nil_append] at ho2
  have e0 : 0 + l.length = l.length := Nat.zero_add _
  rw [e0] at ho2 ⊢
  have hown : ∀ k, (Value.slice p' l.length c').ownBlock = some k → w1.heap.size ≤ k := fun k hk => (ho2.lt k hk).1
  have ho2' : OutAt w2 N l (.slice p' l.length c') := ⟨p', c', xs, rfl, ho2.base fun k hk => by have := hown k hk; omega, hcs.turn fun h => (h.here.still s2).mono fun k hk => ⟨hk.1, Nat.lt_of_lt_of_le hk.2 s2.size, fun e => by have := hown k e; omega⟩⟩
  have key : AddBody w.heap.size w2 p' l.length c' (fun e w' => ∃ v', e = .returned v' ∧ SlAt w' (fun k => N ≤ k) (addP l x) v' ∧ Still w w') := by
    refine addBody_spec (B := N) (x := x) (r1.still s2) ho2' (by have := s2.size; omega) ((((hw.still s1).here).still s2).mono fun k hk => ⟨hk.1, Nat.lt_of_lt_of_le hk.2 s2.size, fun e => by have := hown k e; omega⟩) hl fun v' w' h1 h2 h3 => ⟨v', rfl, h1.sl.mono fun k hk => hk.1, ?_⟩
    exact Mod.trans (s1.trans s2) h2 (fun _ h => h) fun k hk e => by have := hown k e; have := s1.size; omega
  exact key
theorem SlAt.fields {F : Nat → Prop} {l : List Pt} {p : Option Addr} {n c : Nat} (h : SlAt w F l (.slice p n c)) {i : Nat} (hi : i < l.length) : ∃ b wp wc, p = some b ∧ w.cell? (b.add (i * 6)) = some (.int .i64 l[i].k) ∧ w.cell? ((b.add (i * 6)).add 1) = some (.bool l[i].q) ∧ w.cell? ((b.add (i * 6)).add 2) = some (.string (S l[i].t)) ∧ w.cell? ((b.add (i * 6)).add 3) = some (.string (S l[i].n)) ∧ w.cell? ((b.add (i * 6)).add 4) = some (.string (S l[i].o)) ∧
    w.cell? ((b.add (i * 6)).add 5) = some (.slice wp l[i].w.length wc) ∧ SlAt w F l[i].w (.slice wp l[i].w.length wc) := by
  obtain ⟨b, v, rfl, _, hc, hs⟩ := h.get (List.getElem?_eq_getElem hi)
  obtain ⟨wp, wc, rfl⟩ := hs.form
  have a0 : (b.add (i * 6)).add 0 = b.add (i * 6) := by unfold Addr.add; simp
  refine ⟨b, wp, wc, rfl, ?_, hc 1 _ rfl, hc 2 _ rfl, hc 3 _ rfl, hc 4 _ rfl, hc 5 _ rfl, hs⟩
  have := hc 0 _ rfl
  rwa [a0] at this
theorem take_one {α : Type} {l : List α} {k : Nat} (h : k < l.length) : l.take (k + 1) = l.take k ++ [l[k]] := by rw [List.take_add_one, List.getElem?_eq_getElem h]; rfl
theorem wt_take {l : List Pt} {k : Nat} (h : k < l.length) : wtL (l.take k) + l[k].wt ≤ wtL l := by
  have e : l = l.take k ++ (l[k] :: l.drop (k + 1)) := by rw [← List.drop_eq_getElem_cons h, List.take_append_drop]
  have h2 := wtL_append (l.take k) (l[k] :: l.drop (k + 1))
  rw [← e] at h2
  simp only [wtL] at h2
  omega
theorem hasL_app : ∀ a b : List Pt, hasL (a ++ b) = (hasL a || hasL b)
  | [], _ => rfl
  | p :: a, b => by simp only [List.cons_append, hasL, hasL_app a b, Bool.or_assoc]
theorem hasL_cut {l : List Pt} {k : Nat} (h : k < l.length) (hk : hasL (l.take k) = false) : (l[k].k = 2 → hasL l = true) ∧ (hasL l[k].w = true → hasL l = true) ∧ (l[k].k ≠ 2 → hasL l[k].w = false → hasL (l.take (k + 1)) = false) := by
  have hp : l[k].has = (decide (l[k].k = 2) || hasL l[k].w) := by
    generalize l[k] = p
    cases p
    rfl
  have mem : l[k].has = true → hasL l = true := fun h2 => hasL_mem.2 ⟨_, List.getElem_mem h, h2⟩
  refine ⟨fun h2 => mem (by rw [hp, h2]; rfl), fun h2 => mem (by rw [hp, h2, Bool.or_true]), fun h2 h3 => ?_⟩
  rw [take_one h, hasL_app, hk]
  simp only [hasL, hp, h3, decide_eq_false h2]
  rfl
theorem word_of {l : List Pt} {k : Nat} (h : k < l.length) : SizeOf.sizeOf l[k].w < SizeOf.sizeOf l := mem_size (List.getElem_mem h)
theorem wt_word {l : List Pt} {k : Nat} (h : k < l.length) : wtL l[k].w ≤ wtL l := by
  have h1 := wtL_mem (List.getElem_mem h)
  have h2 := l[k].wt_eq
  omega
theorem one6 {x : Pt} {wp : Option Addr} {n wc : Nat} : ∀ v ∈ [Value.int .i64 x.k, .bool x.q, .string (S x.t), .string (S x.n), .string (S x.o), .slice wp n wc], v.oneCell' = true := by simp [Value.oneCell']
theorem has_of : ∀ (n : Nat) (l : List Pt), SizeOf.sizeOf l < n → wtL l < 500000000 → ∀ (w : World) (F : Nat → Prop) (v : Value), SlAt w F l v → Calls Tryz.prog fn_word_has #[v] w (fun e w' => e = .returned (.bool (hasL l)) ∧ Still w w') := by
  intro n
  induction n with
  | zero => intro l h; omega
  | succ n ih =>
    intro l hn hl w F v hv
    obtain ⟨p, c, rfl⟩ := hv.form
    have hwl := wtL_len l
    refine word_has_calls _ _ _ _ _ ?_
    refine ⟨fun x w1 => ∃ k : Nat, x = (k : Int) ∧ k ≤ l.length ∧ hasL (l.take k) = false ∧ Still w w1, fun x _ => l.length - x.toNat, ⟨0, rfl, Nat.zero_le _, rfl, Still.refl _⟩, ?_⟩
    rintro _ _ w1 ⟨k, rfl, hk, hh, hs1⟩
    refine bsel_of (fun hx => ?_) (fun hx => ?_)
    rotate_left
    · have hx : k = l.length := by have := of_decide_eq_false hx; omega
      rw [hx, List.take_length] at hh
      rw [hh]
      exact ⟨rfl, hs1⟩
    have hx : k < l.length := by have := of_decide_eq_true hx; omega
    obtain ⟨b, wp, wc, rfl, c0, c1, c2, c3, c4, c5, hsw⟩ := (hv.still hs1).fields hx
    obtain ⟨h2, h3, h4⟩ := hasL_cut hx hh
    rw [Int.toNat_natCast]
    refine ⟨by omega, by omega, _, _, _, _, _, _, _, _, c0, c1, c2, c3, c4, c5, boxK rfl one6 fun w3 r3 s3 z3 => ⟨_, r3.lget rfl, bsel_of (fun hk2 => ?_) (fun hk2 => ?_)⟩⟩
    · rw [h2 (of_decide_eq_true hk2)]
      exact ⟨rfl, hs1.trans s3⟩
    · refine ⟨_, _, _, r3.lget rfl, (ih _ (by have := word_of hx; omega) (by have := wt_word hx; omega) w3 F _ (hsw.still s3)).mono ?_⟩
      rintro _ w4 ⟨rfl, s4⟩
      refine .inl ⟨_, rfl, bsel_of (fun hb => ?_) (fun hb => ?_)⟩
      · rw [h3 hb]
        exact ⟨rfl, (hs1.trans s3).trans s4⟩
      · rw [show IntKind.i64.wrap ((k : Int) + 1) = ((k + 1 : Nat) : Int) by rw [wrap_i64 (by omega) (by omega)]; omega]
        exact ⟨⟨k + 1, rfl, hx, h4 (of_decide_eq_false hk2) hb, (hs1.trans s3).trans s4⟩, by dsimp only; omega⟩
theorem has_spec {F : Nat → Prop} {l : List Pt} {v : Value} (hv : SlAt w F l v) (hl : wtL l < 500000000) : Calls Tryz.prog fn_word_has #[v] w (fun e w' => e = .returned (.bool (hasL l)) ∧ Still w w') := has_of _ l (Nat.lt_succ_self _) hl w F v hv
theorem commands_of : ∀ (n : Nat) (l : List Pt), SizeOf.sizeOf l < n → wtL l < 500000000 → ∀ (w : World) (F : Nat → Prop) (v : Value), SlAt w F l v → Calls Tryz.prog fn_ref08_commands #[v] w (fun e w' => e = .returned (.bool (hasL l)) ∧ Still w w') := by
  intro n
  induction n with
  | zero => intro l h; omega
  | succ n ih =>
    intro l hn hl w F v hv
    obtain ⟨p, c, rfl⟩ := hv.form
    have hwl := wtL_len l
    refine ref08_commands_calls _ _ _ _ _ ?_
    refine ⟨fun x w1 => ∃ k : Nat, x = (k : Int) ∧ k ≤ l.length ∧ hasL (l.take k) = false ∧ Still w w1, fun x _ => l.length - x.toNat, ⟨0, rfl, Nat.zero_le _, rfl, Still.refl _⟩, ?_⟩
    rintro _ _ w1 ⟨k, rfl, hk, hh, hs1⟩
    refine bsel_of (fun hx => ?_) (fun hx => ?_)
    rotate_left
    · have hx : k = l.length := by have := of_decide_eq_false hx; omega
      rw [hx, List.take_length] at hh
      rw [hh]
      exact ⟨rfl, hs1⟩
    have hx : k < l.length := by have := of_decide_eq_true hx; omega
    obtain ⟨b, wp, wc, rfl, c0, c1, c2, c3, c4, c5, hsw⟩ := (hv.still hs1).fields hx
    obtain ⟨h2, h3, h4⟩ := hasL_cut hx hh
    rw [Int.toNat_natCast]
    refine ⟨by omega, by omega, _, c0, bsel_of (fun hk2 => ?_) (fun hk2 => ?_)⟩
    · rw [h2 (of_decide_eq_true hk2)]
      exact ⟨rfl, hs1⟩
    · refine ⟨by omega, by omega, _, _, _, c5, (ih _ (by have := word_of hx; omega) (by have := wt_word hx; omega) w1 F _ hsw).mono ?_⟩
      rintro _ w4 ⟨rfl, s4⟩
      refine .inl ⟨_, rfl, bsel_of (fun hb => ?_) (fun hb => ?_)⟩
      · rw [h3 hb]
        exact ⟨rfl, hs1.trans s4⟩
      · rw [show IntKind.i64.wrap ((k : Int) + 1) = ((k + 1 : Nat) : Int) by rw [wrap_i64 (by omega) (by omega)]; omega]
        exact ⟨⟨k + 1, rfl, hx, h4 (of_decide_eq_false hk2) hb, hs1.trans s4⟩, by dsimp only; omega⟩
theorem commands_spec {F : Nat → Prop} {l : List Pt} {v : Value} (hv : SlAt w F l v) (hl : wtL l < 500000000) : Calls Tryz.prog fn_ref08_commands #[v] w (fun e w' => e = .returned (.bool (hasL l)) ∧ Still w w') := commands_of _ l (Nat.lt_succ_self _) hl w F v hv
theorem qdL_step {l : List Pt} {k : Nat} (h : k < l.length) : qdL [] (l.take (k + 1)) = addP (qdL [] (l.take k)) l[k].qd := by
  rw [qdL_fold, qdL_fold, take_one h, List.map_append, List.foldl_append]
  rfl
theorem qd_shape (x : Pt) : x.qd = .mk x.k true x.t x.n x.o (qdL [] x.w) := by cases x; rfl
theorem OutAt.ownLt {B : Nat} {l : List Pt} {v : Value} (h : OutAt w B l v) {k : Nat} (hk : v.ownBlock = some k) : B ≤ k ∧ k < w.heap.size := by
  obtain ⟨p, c, xs, rfl, ho, _⟩ := h
  exact ho.lt k hk
theorem quoted_of : ∀ (n : Nat) (l : List Pt), SizeOf.sizeOf l < n → wtL l < 500000000 → ∀ (w : World) (F : Nat → Prop) (v : Value), SlAt w F l v →
    Calls Tryz.prog fn_word_quoted #[v] w (fun e w' => ∃ v', e = .returned v' ∧ SlAt w' (fun k => w.heap.size ≤ k ∧ k < w'.heap.size) (qdL [] l) v' ∧ Still w w') := by
  intro n
  induction n with
  | zero => intro l h; omega
  | succ n ih =>
    intro l hn hl w F v hv
    obtain ⟨p, c, rfl⟩ := hv.form
    have hwl := wtL_len l
    refine word_quoted_calls _ _ _ _ _ ?_
    refine ⟨fun out outL outC x w1 => ∃ k : Nat, x = (k : Int) ∧ k ≤ l.length ∧ OutAt w1 w.heap.size (qdL [] (l.take k)) (.slice out outL outC) ∧ Still w w1, fun _ _ _ x _ => l.length - x.toNat, ⟨0, rfl, Nat.zero_le _, OutAt.nil _ _, Still.refl _⟩, ?_⟩
    rintro out outL outC _ _ w1 ⟨k, rfl, hk, ho, hs1⟩
    refine bsel_of (fun hx => ?_) (fun hx => ?_)
    rotate_left
    · have hx : k = l.length := by have := of_decide_eq_false hx; omega
      rw [hx, List.take_length] at ho
      exact ⟨_, rfl, ho.sl, hs1⟩
    have hx : k < l.length := by have := of_decide_eq_true hx; omega
    obtain ⟨b, wp, wc, rfl, c0, c1, c2, c3, c4, c5, hsw⟩ := (hv.still hs1).fields hx
    rw [Int.toNat_natCast]
    refine ⟨by omega, by omega, _, _, _, _, _, _, _, _, c0, c1, c2, c3, c4, c5, boxK rfl one6 fun w3 r3 s3 z3 => ⟨_, _, _, r3.lget rfl, (ih _ (by have := word_of hx; omega) (by have := wt_word hx; omega) w3 F _ (hsw.still s3)).mono ?_⟩⟩
    rintro _ w4 ⟨v4, rfl, hs4, s4⟩
    obtain ⟨rp, rc, rfl⟩ := hs4.form
    refine .inl ⟨_, _, _, rfl, ?_⟩
    have r4 := r3.still s4
    refine stK r4 (by simp) (by simp [Value.oneCell']) fun w5 r5 m5 z5 => stK r5 (by simp [ovw]) (by simp [Value.oneCell']) fun w6 r6 m6 z6 => ?_
    have hsz := s3.size
    have hsz4 := s4.size
    have m16 : Still w1 w6 := Mod.trans (Mod.trans (s3.trans s4) m5 (U := fun k => k = w1.heap.size) (fun _ h => h.elim) (fun _ _ h => h)) m6 (U := fun k => k = w1.heap.size) (fun _ h => h) (fun _ _ h => h) |>.block |> fun hb => ⟨m6.os.trans (m5.os.trans (s3.trans s4).os), m6.tape.trans (m5.tape.trans (s3.trans s4).tape), m6.output.trans (m5.output.trans (s3.trans s4).output), by have := m6.size; have := m5.size; omega, fun i hi _ => hb i hi (by omega)⟩
    have m46 : Mod (fun k => k = w1.heap.size) w4 w6 := Mod.trans m5 m6 (fun _ h => h) (fun _ _ h => h)
    have ho6 := ho.still m16
    have hq6 : SlAt w6 (fun k => w.heap.size ≤ k ∧ k < w6.heap.size ∧ (Value.slice out outL outC).ownBlock ≠ some k) (qdL [] l[k].w) (.slice rp (qdL [] l[k].w).length rc) :=
      (hs4.mod m46 (fun j hj e => by have := hj.1; omega)).mono fun j hj => ⟨by have := hj.1; have := hs1.size; omega, by have := hj.2; have := m46.size; omega, fun e => by have := (ho.ownLt e).2; have := hj.1; omega⟩
    have hwk := wt_take hx
    have hq1 := wt_qdL (l.take k) []
    have hq2 := l[k].wt_qd
    simp only [wtL] at hq1
    have hadd := add_spec (x := l[k].qd) ho6 (by have := hs1.size; have := m16.size; omega) (by rw [qd_shape]; exact hq6) (by omega)
    rw [qd_shape] at hadd
    refine ⟨_, _, _, _, _, _, _, _, r6.lget rfl, r6.lget rfl, r6.lget rfl, r6.lget rfl, r6.lget rfl, r6.lget rfl, hadd.mono ?_⟩
    rintro _ w7 ⟨v7, rfl, ho7, m7, _⟩
    rw [← qd_shape, ← qdL_step hx] at ho7
    obtain ⟨p7, c7, xs7, rfl, hown7, hcs7⟩ := ho7
    have s17 : Still w w7 := Mod.trans (hs1.trans m16) m7 (fun _ h => h) fun j hj e => by have := (ho.ownLt e).1; omega
    rw [show IntKind.i64.wrap ((k : Int) + 1) = ((k + 1 : Nat) : Int) by rw [wrap_i64 (by omega) (by omega)]; omega]
    exact .inl ⟨_, _, _, rfl, ⟨k + 1, rfl, hx, ⟨p7, c7, xs7, rfl, hown7, hcs7⟩, s17⟩, by dsimp only; omega⟩
theorem quoted_spec {F : Nat → Prop} {l : List Pt} {v : Value} (hv : SlAt w F l v) (hl : wtL l < 500000000) : Calls Tryz.prog fn_word_quoted #[v] w (fun e w' => ∃ v', e = .returned v' ∧ SlAt w' (fun k => w.heap.size ≤ k ∧ k < w'.heap.size) (qdL [] l) v' ∧ Still w w') := quoted_of _ l (Nat.lt_succ_self _) hl w F v hv
theorem quotes_of : ∀ (n : Nat) (l : List Pt), SizeOf.sizeOf l < n → wtL l < 500000000 → ∀ (w : World) (F : Nat → Prop) (v : Value), SlAt w F l v →
    Calls Tryz.prog fn_ref08_quotes #[v] w (fun e w' => ∃ v', e = .returned v' ∧ SlAt w' (fun k => w.heap.size ≤ k) (qdL [] l) v' ∧ Still w w') := by
  intro n
  induction n with
  | zero => intro l h; omega
  | succ n ih =>
    intro l hn hl w F v hv
    obtain ⟨p, c, rfl⟩ := hv.form
    have hwl := wtL_len l
    refine ref08_quotes_calls _ _ _ _ _ ?_
    refine ⟨fun out outL outC x w1 => ∃ k : Nat, x = (k : Int) ∧ k ≤ l.length ∧ SlAt w1 (fun k => w.heap.size ≤ k) (qdL [] (l.take k)) (.slice out outL outC) ∧ Still w w1, fun _ _ _ x _ => l.length - x.toNat, ⟨0, rfl, Nat.zero_le _, SlAt.nil _ _ _ _, Still.refl _⟩, ?_⟩
    rintro out outL outC _ _ w1 ⟨k, rfl, hk, ho, hs1⟩
    refine bsel_of (fun hx => ?_) (fun hx => ?_)
    rotate_left
    · have hx : k = l.length := by have := of_decide_eq_false hx; omega
      rw [hx, List.take_length] at ho
      exact ⟨_, rfl, ho, hs1⟩
    have hx : k < l.length := by have := of_decide_eq_true hx; omega
    obtain ⟨b, wp, wc, rfl, c0, c1, c2, c3, c4, c5, hsw⟩ := (hv.still hs1).fields hx
    rw [Int.toNat_natCast]
    refine ⟨by omega, by omega, _, _, _, _, _, _, _, _, c0, c1, c2, c3, c4, c5, boxK rfl one6 fun w3 r3 s3 z3 => stK r3 (by simp) (by simp [Value.oneCell']) fun w4 r4 m4 z4 => ?_⟩
    have s4 : Still w1 w4 := s3.box (Nat.le_refl _) m4
    refine ⟨_, _, _, r4.lget rfl, (ih _ (by have := word_of hx; omega) (by have := wt_word hx; omega) w4 F _ (hsw.still s4)).mono ?_⟩
    rintro _ w5 ⟨v5, rfl, hs5, s5⟩
    obtain ⟨rp, rc, rfl⟩ := hs5.form
    refine .inl ⟨_, _, _, rfl, ?_⟩
    have s15 := s4.trans s5
    refine stK (r4.still s5) (by simp [ovw]) (by simp [Value.oneCell']) fun w6 r6 m6 z6 => ?_
    have s16 : Still w1 w6 := s15.box (Nat.le_refl _) m6
    have hsz := s3.size
    have hq6 : SlAt w6 (fun k => w.heap.size ≤ k) (qdL [] l[k].w) (.slice rp (qdL [] l[k].w).length rc) :=
      (hs5.mod m6 (fun j hj e => by omega)).mono fun j hj => by have := hs1.size; omega
    have hwk := wt_take hx
    have hq1 := wt_qdL (l.take k) []
    have hq2 := l[k].wt_qd
    simp only [wtL] at hq1
    have hadd := ref_Add_spec (x := l[k].qd) (ho.still s16) (by have := hs1.size; have := s16.size; omega) (by rw [qd_shape]; exact hq6) (by omega)
    rw [qd_shape] at hadd
    refine ⟨_, _, _, _, _, _, _, _, r6.lget rfl, r6.lget rfl, r6.lget rfl, r6.lget rfl, r6.lget rfl, r6.lget rfl, hadd.mono ?_⟩
    rintro _ w7 ⟨v7, rfl, ho7, s7⟩
    rw [← qd_shape, ← qdL_step hx] at ho7
    obtain ⟨p7, c7, rfl⟩ := ho7.form
    rw [show IntKind.i64.wrap ((k : Int) + 1) = ((k + 1 : Nat) : Int) by rw [wrap_i64 (by omega) (by omega)]; omega]
    exact .inl ⟨_, _, _, rfl, ⟨k + 1, rfl, hx, ho7, (hs1.trans s16).trans s7⟩, by dsimp only; omega⟩
theorem quotes_spec {F : Nat → Prop} {l : List Pt} {v : Value} (hv : SlAt w F l v) (hl : wtL l < 500000000) : Calls Tryz.prog fn_ref08_quotes #[v] w (fun e w' => ∃ v', e = .returned v' ∧ SlAt w' (fun k => w.heap.size ≤ k) (qdL [] l) v' ∧ Still w w') := quotes_of _ l (Nat.lt_succ_self _) hl w F v hv
end Go.Proofs.YtcoeiiihmpnagaaGreatDoor
namespace Go.Proofs.YtcoeiiihmpnagaaGreatDoor
open Go.RowKit Vc
theorem ta_nil (w : World) : (Instr.typeAssert .nilIface 20 32 true).run Tryz.prog w = .ok (.tuple #[.int .i64 0, .bool false]) w := by kernel_rfl
theorem ta_err (w : World) (n : Int) : (Instr.typeAssert (.iface 32 (.int .i64 n)) 20 32 true).run Tryz.prog w = .ok (.tuple #[.int .i64 n, .bool true]) w := by kernel_rfl
set_option maxRecDepth 4000 in
theorem unit1_idle (p : Addr) (w : World) :
    CallsD Tryz.prog 122 #[.pointer (some p)] .returning w fun e u' w' => e = .returned (.tuple #[]) ∧ u' = .returning ∧ w' = w := by
  refine callsD_of_wpS Tryz.func122 rfl fun c₀ cs hu => ?_
  apply wpS_seq
  apply wpS_region
  simp [wpOpsS, go_sem, recoverD, hu, Tryz.ntmps122, Exit.thenS]
  apply wpS_seq
  apply wpS_region
  simp [wpOpsS, go_sem, Exit.thenS, ta_nil]
  apply wpS_seq
  apply wpS_region
  simp [wpOpsS, go_sem, Tryz.ntmps122, Exit.thenS]
  refine wpS_cond (t := false) (by simp [Act.eval, Array.replicate]) ?_
  simp only [Bool.false_eq_true, if_false]
  refine wpS_of_wp (wp_skip ?_)
  cases c₀
  simp_all [bodyPostS, results, Tryz.results122]
set_option maxRecDepth 4000 in
theorem unit1_panics (p : Addr) (n : Int) (w : World) (hp : Wr w p) :
    CallsD Tryz.prog 122 #[.pointer (some p)] (.panicking [{ v := .iface 32 (.int .i64 n), recovered := false }]) w fun e u' w' => e = .returned (.tuple #[]) ∧ settle u' = .returning ∧ w' = w.setCell p (.int .i64 0) := by
  refine callsD_of_wpS Tryz.func122 rfl fun c₀ cs hu => ?_
  apply wpS_seq
  apply wpS_region
  simp [wpOpsS, go_sem, recoverD, hu, Tryz.ntmps122, Exit.thenS]
  apply wpS_seq
  apply wpS_region
  simp [wpOpsS, go_sem, Exit.thenS, ta_err]
  apply wpS_seq
  apply wpS_region
  simp [wpOpsS, go_sem, Tryz.ntmps122, Exit.thenS]
  refine wpS_cond (t := true) (by simp [Act.eval, Array.replicate]) ?_
  simp only [if_true]
  obtain ⟨h1, h2⟩ := hp
  obtain ⟨v0, hc⟩ := Option.isSome_iff_exists.1 h1
  apply wpS_region
  simp [wpOpsS, go_sem, hc, h2]
  cases c₀
  simp_all [bodyPostS, results, Tryz.results122, settle]
def unitN (s : Txt) : Nat := match unitD 30 s with
  | some t => s.length - t.length
  | none => 0
theorem unitN_pos {s t : Txt} (h : unitD 30 s = some t) : unitN s = s.length - t.length ∧ 0 < unitN s ∧ unitN s ≤ s.length := by
  have := unitD_takes 30 _ _ h
  unfold unitN
  rw [h]
  dsimp only
  omega
theorem Unit_spec {w : World} (s : Txt) (hl : s.length < 1000000) : Calls Tryz.prog fn_lexer_Unit #[.string (S s)] w (fun e w' => e = .returned (.int .i64 (unitN s : Int)) ∧ Still w w') := by
  refine lexer_Unit_calls _ _ _ ?_
  refine allocK fun w1 r1 s1 z1 => allocK fun w2 r2 s2 z2 => ?_
  have r1' := r1.still s2
  have s02 := s1.trans s2
  refine (want_spec _).mono ?_
  rintro _ w3 ⟨rfl, rfl⟩
  have bad : ∀ {w4 : World}, Row w4 w.heap.size 3 ⟨[.int .i64 0]⟩ → Still w w4 → unitD 30 s = none →
      CallsD Tryz.prog fn_lexer_Unit_1 #[.pointer (some ⟨w.heap.size, 0, none⟩)] (.panicking quoteP) w4 (fun ed u w7 => (∃ rv, ed = .returned rv) ∧ settle u = .returning ∧ ∃ v2 : Int, w7.cell? ⟨w.heap.size, 0, none⟩ = some (.int .i64 v2) ∧ (Ending.returned (.int .i64 v2) = .returned (.int .i64 (unitN s : Int)) ∧ Still w w7)) := by
    intro w4 r4 s4 hn
    refine (unit1_panics ⟨w.heap.size, 0, none⟩ 80 w4 (r4.wr 0 (by simp))).mono ?_
    rintro e u w7 ⟨rfl, hu, rfl⟩
    refine ⟨⟨_, rfl⟩, hu, 0, (r4.setl 0 (.int .i64 0)).lget rfl, ?_, s4.box (Nat.le_refl _) ((Mod.refl (fun i => i = w.heap.size) w4).setCell (p := ⟨w.heap.size, 0, none⟩) (.inl rfl) _)⟩
    unfold unitN
    rw [hn]
    rfl
  by_cases hs : s = []
  · subst hs
    rw [if_neg (by decide)]
    exact .inr ⟨_, rfl, bad r1' s02 rfl⟩
  rw [if_pos (by simpa using hs)]
  refine .inl ⟨rfl, (unit_spec (g := w1.heap.size) hs r2 hl).mono ?_⟩
  rintro e w4 ⟨hm, h⟩
  have r4 : Row w4 w.heap.size 3 ⟨[.int .i64 0]⟩ := r1'.mod hm (by rintro e; have := r1.lt; omega)
  have s4 : Still w w4 := s02.box (by omega) hm
  cases hu : unitD 30 s with
  | none =>
    rw [hu] at h
    obtain ⟨rfl, _⟩ := h
    exact .inr ⟨_, rfl, bad r4 s4 hu⟩
  | some t =>
    rw [hu] at h
    obtain ⟨rfl, hsc⟩ := h
    have hk := unitN_pos hu
    refine .inl ⟨rfl, t, hsc.cell, ?_⟩
    rw [show IntKind.i64.wrap ((s.length : Int) - (t.length : Int)) = (unitN s : Int) by rw [wrap_i64 (by omega) (by omega)]; omega]
    refine stK r4 (by simp) (by simp [Value.oneCell']) fun w5 r5 m5 _ => ?_
    refine (unit1_idle _ _).mono ?_
    rintro _ _ _ ⟨rfl, rfl, rfl⟩
    exact ⟨⟨_, rfl⟩, rfl, _, r5.lget rfl, rfl, s4.box (Nat.le_refl _) m5⟩
end Go.Proofs.YtcoeiiihmpnagaaGreatDoor
namespace Go.Proofs.YtcoeiiihmpnagaaGreatDoor
open Go.RowKit Vc
variable {w : World}
abbrev PRow (w : World) (g : Nat) (s : Txt) (v : Value) (q : Bool) (d : Int) : Prop := Row w g 112 ⟨[.string (S s), v, .bool q, .int .i64 d]⟩
def PS (w : World) (g B : Nat) (s : Txt) (l : List Pt) (q : Bool) (d : Int) : Prop := ∃ v, PRow w g s v q d ∧ OutAt w B l v
abbrev MP (g B : Nat) (w w' : World) : Prop := Mod (fun k => k = g ∨ B ≤ k) w w'
theorem MP.trans {g B : Nat} {a b c : World} (h : MP g B a b) (k : MP g B b c) : MP g B a c := Mod.trans h k (fun _ h => h) (fun _ _ h => h)
theorem Still.mp {g B : Nat} {a b : World} (h : Still a b) : MP g B a b := h.weaken fun _ h => h.elim
theorem MP.still {g B : Nat} {a b c : World} (h : MP g B a b) (k : Still b c) : MP g B a c := MP.trans h k.mp
theorem PRow.text {g : Nat} {s : Txt} {v : Value} {q : Bool} {d : Int} (h : PRow w g s v q d) : w.cell? ⟨g, 0, none⟩ = some (.string (S s)) := h.lget rfl
theorem PRow.quoted {g : Nat} {s : Txt} {v : Value} {q : Bool} {d : Int} (h : PRow w g s v q d) : w.cell? ⟨g, 2, none⟩ = some (.bool q) := h.lget rfl
theorem PRow.depth {g : Nat} {s : Txt} {v : Value} {q : Bool} {d : Int} (h : PRow w g s v q d) : w.cell? ⟨g, 3, none⟩ = some (.int .i64 d) := h.lget rfl
def setq (x : Pt) (b : Bool) : Pt := .mk x.k (x.q || b) x.t x.n x.o x.w
theorem setq_wt (x : Pt) (b : Bool) : (setq x b).wt = x.wt := by
  rw [Pt.wt_eq, Pt.wt_eq]
  rfl
theorem PS.still {w' : World} {g B : Nat} {s : Txt} {l : List Pt} {q : Bool} {d : Int} (h : PS w g B s l q d) (hs : Still w w') : PS w' g B s l q d := by
  obtain ⟨v, h1, h2⟩ := h
  exact ⟨v, h1.still hs, h2.still hs⟩
theorem put_spec {g B n : Nat} {s : Txt} {l : List Pt} {v vw : Value} {q : Bool} {d : Int} {x : Pt} (hr : PRow w g s v q d) (ho : OutAt w B l v) (hg : g < B) (hB : B ≤ w.heap.size) (hw : SlAt w (fun k => B ≤ k ∧ k < w.heap.size ∧ v.ownBlock ≠ some k) x.w vw) (hn : n ≤ s.length) (hl : wtL l + x.wt < 1000000000) :
    Calls Tryz.prog fn_word_parser_put #[.pointer (some ⟨g, 0, none⟩), pagg x vw, .int .i64 (n : Int)] w (fun e w' => e = .returned (.tuple #[]) ∧ PS w' g B (s.drop n) (addP l (setq x q)) q d ∧ MP g B w w') := by
  obtain ⟨wp, wc, rfl⟩ := hw.form
  refine word_parser_put_calls _ _ _ _ _ _ _ _ _ _ _ _ ?_
  refine allocK fun w1 r1 s1 z1 => ?_
  have f1 := (box_fields (x := x) r1).2.1
  have hr1 : PRow w1 g s v q d := hr.still s1
  refine ⟨fun w4 => Row w4 w.heap.size 73 ⟨pcell (setq x q) (.slice wp x.w.length wc)⟩ ∧ Still w w4, ⟨_, f1, bsel_of (fun h => ?_) (fun h => ?_)⟩, ?_⟩
  · refine stK r1 (by simp) (by simp [Value.oneCell']) fun w2 r2 m2 z2 => ⟨?_, s1.box (Nat.le_refl _) m2⟩
    have e : pcell (setq x q) (.slice wp x.w.length wc) = ovw (pcell x (.slice wp x.w.length wc)) 1 [.bool true] := by
      rw [show setq x q = .mk x.k true x.t x.n x.o x.w by rw [setq, h, Bool.true_or]]
      rfl
    rw [e]
    exact r2
  · refine ⟨_, by rw [add_row]; exact hr1.quoted, stK r1 (by simp) (by simp [Value.oneCell']) fun w2 r2 m2 z2 => ⟨?_, s1.box (Nat.le_refl _) m2⟩⟩
    have e : pcell (setq x q) (.slice wp x.w.length wc) = ovw (pcell x (.slice wp x.w.length wc)) 1 [.bool q] := by
      rw [show setq x q = .mk x.k q x.t x.n x.o x.w by rw [setq, h, Bool.false_or]]
      rfl
    rw [e]
    exact r2
  rintro _ w4 ⟨r4, s4⟩
  have sd : Still w w4.drew := s4.toDrew
  have hrd := hr.still sd
  have hod := ho.still sd
  obtain ⟨p, c, xs, hv, hown, hcs⟩ := hod
  subst hv
  have hod : OutAt w4.drew B l (.slice p l.length c) := ⟨p, c, xs, rfl, hown, hcs⟩
  have rd : Row w4.drew w.heap.size 73 ⟨pcell (setq x q) (.slice wp x.w.length wc)⟩ := r4.still (drew_still w4)
  refine ⟨fun wq => wq = w4.drew, rfl, p, l.length, c, ?_, (setq x q).k, (setq x q).q, (setq x q).t, (setq x q).n, (setq x q).o, wp, x.w.length, wc, ?_, ?_, ?_, ?_, ?_, ?_, ?_⟩
  · rintro _ rfl
    rw [add_row]
    exact hrd.lget rfl
  · rintro _ rfl; exact rd.lget rfl
  · rintro _ rfl; exact rd.lget rfl
  · rintro _ rfl; exact rd.lget rfl
  · rintro _ rfl; exact rd.lget rfl
  · rintro _ rfl; exact rd.lget rfl
  · rintro _ rfl; exact rd.lget rfl
  have hzd := sd.size
  refine (add_spec (x := setq x q) hod (by omega) ((hw.still sd).mono fun k hk => ⟨hk.1, by omega, hk.2.2⟩) (by rw [setq_wt]; exact hl)).mono ?_
  rintro _ w5 ⟨v5, rfl, ho5, m5, own5⟩
  obtain ⟨p5, c5, xs5, rfl, hown5, hcs5⟩ := ho5
  have hr5 : PRow w5 g s (.slice p l.length c) q d := hrd.mod m5 fun e => by have := (hod.ownLt e).1; omega
  refine .inl ⟨_, _, _, rfl, ?_⟩
  show stCells ((Addr.mk g 0 none).add 1) _ _ _ _
  rw [add_row]
  refine stK hr5 (by simp) (by simp [Value.oneCell']) fun w6 r6 m6 z6 => ?_
  refine ⟨s, r6.lget rfl, by omega, by omega, ?_⟩
  rw [Int.toNat_natCast]
  refine stK r6 (by simp [ovw]) (by simp [Value.oneCell']) fun w7 r7 m7 z7 => ⟨rfl, ⟨_, r7, ?_⟩, ?_⟩
  · have ho5 : OutAt w5 B (addP l (setq x q)) (.slice p5 (addP l (setq x q)).length c5) := ⟨p5, c5, xs5, rfl, hown5, hcs5⟩
    exact (ho5.mod m6 fun k hk _ e => by omega).mod m7 fun k hk _ e => by omega
  · have m5' : MP g B w4.drew w5 := m5.weaken fun k hk => .inr (hod.ownLt hk).1
    exact ((sd.mp.trans m5').trans (m6.weaken fun k hk => .inl hk)).trans (m7.weaken fun k hk => .inl hk)
theorem bracesF_nz {P : Txt → Rs (List Pt)} (hP : ∀ s, P s ≠ .bad 0) (q : Bool) (s : Txt) : bracesF P q s ≠ .bad 0 := by
  unfold bracesF
  split
  · intro h; cases h
  · split
    · intro h; cases h
    · split
      · intro h; cases h
      · split
        · intro h; cases h
        · cases hp : P ((s.drop (paramN s)).drop (opOf (s.drop (paramN s))).length) with
          | bad k =>
            intro h
            injection h with h
            exact hP _ (hp.trans (by rw [h]))
          | ok x =>
            simp only [Rs.and]
            split <;> (intro h; cases h)
theorem dollarF_nz {P : Txt → Rs (List Pt)} (hP : ∀ s, P s ≠ .bad 0) (q : Bool) (s : Txt) : dollarF P q s ≠ .bad 0 := by
  unfold dollarF
  split
  · split
    · intro h; cases h
    · split
      · rename_i t _ _
        cases hb : bracesF P q ((s.drop 2).take (s.length - t.length - 3)) with
        | bad k =>
          intro h
          injection h with h
          exact bracesF_nz hP _ _ (hb.trans (by rw [h]))
        | ok x => intro h; cases h
      · split <;> (intro h; cases h)
  · split
    · intro h; cases h
    · split <;> (intro h; cases h)
theorem loopF_nz {one : Txt → Rs (List Pt × Nat)} (ht : Takes1 one) (ho : ∀ c r, one (c :: r) ≠ .bad 0) : ∀ (n : Nat) (acc : List Pt) (s : Txt), s.length < n → loopF one n acc s ≠ .bad 0
  | 0, _, _, h => by omega
  | n + 1, acc, [], _ => fun h => by cases h
  | n + 1, acc, c :: r, hn => by
    simp only [loopF]
    cases h1 : one (c :: r) with
    | bad k =>
      intro h
      injection h with h
      exact ho c r (h1.trans (by rw [h]))
    | ok x =>
      have h2 := ht _ _ h1
      simp only [List.length_cons] at hn h2
      exact loopF_nz ht ho n _ _ (by rw [List.length_drop, List.length_cons]; omega)
theorem dblOne_nz {P : Txt → Rs (List Pt)} (hP : ∀ s, P s ≠ .bad 0) (c : UInt8) (r : Txt) : dblOne P (c :: r) ≠ .bad 0 := by
  simp only [dblOne]
  split
  · cases hd : dollarF P true (c :: r) with
    | bad k =>
      intro h
      injection h with h
      exact dollarF_nz hP _ _ (hd.trans (by rw [h]))
    | ok x => intro h; cases h
  · split <;> (intro h; cases h)
theorem dblF_nz {P : Txt → Rs (List Pt)} (hP : ∀ s, P s ≠ .bad 0) (s : Txt) : dblF P s ≠ .bad 0 := by
  unfold dblF
  split
  · intro h; cases h
  · exact loopF_nz (dblOne_takes P) (dblOne_nz hP) _ _ _ (Nat.lt_succ_self _)
theorem outOne_nz {P : Txt → Rs (List Pt)} (hP : ∀ s, P s ≠ .bad 0) (c : UInt8) (r : Txt) : outOne P (c :: r) ≠ .bad 0 := by
  simp only [outOne]
  split
  · cases hd : dollarF P false (c :: r) with
    | bad k =>
      intro h
      injection h with h
      exact dollarF_nz hP _ _ (hd.trans (by rw [h]))
    | ok x => intro h; cases h
  · split
    · split
      · intro h; cases h
      · rename_i t _
        split
        · intro h; cases h
        · split
          · cases hd : dblF P (r.take (r.length - t.length - 1)) with
            | bad k =>
              intro h
              injection h with h
              exact dblF_nz hP _ (hd.trans (by rw [h]))
            | ok x => intro h; cases h
          · intro h; cases h
    · intro h; cases h
theorem wpL_nz : ∀ (L : Nat) (s : Txt), wpL L s ≠ .bad 0
  | 0, s => fun h => by cases h
  | L + 1, s => loopF_nz (outOne_takes _) (outOne_nz (wpL_nz L)) _ _ _ (Nat.lt_succ_self _)
theorem takeWhile_twice {p : UInt8 → Bool} : ∀ l : Txt, (l.takeWhile p).takeWhile p = l.takeWhile p
  | [] => rfl
  | a :: l => by
    by_cases h : p a = true
    · rw [List.takeWhile_cons, if_pos h, List.takeWhile_cons, if_pos h, takeWhile_twice l]
    · rw [List.takeWhile_cons, if_neg h]
      rfl
theorem nameN_param (s : Txt) : nameN (s.take (paramN s)) = 0 ∨ nameN (s.take (paramN s)) = (s.take (paramN s)).length := by
  by_cases h : 0 < nameN s
  · right
    have hp : paramN s = nameN s := by unfold paramN; rw [if_pos h]
    rw [hp]
    cases s with
    | nil => rfl
    | cons c r =>
      simp only [nameN] at h ⊢
      split at h
      · rename_i hc
        rw [if_pos hc, List.take_succ_cons]
        simp only [hc, if_true, List.length_cons]
        have e : (r.take (r.takeWhile isNam).length).takeWhile isNam = r.take (r.takeWhile isNam).length := by
          have : r.take (r.takeWhile isNam).length = r.takeWhile isNam := (List.prefix_iff_eq_take.1 (List.takeWhile_prefix _)).symm
          rw [this]
          exact takeWhile_twice _
        rw [e]
      · omega
  · left
    cases s with
    | nil => simp [nameN, paramN]
    | cons c r =>
      simp only [nameN] at h
      cases hk : paramN (c :: r) with
      | zero => rfl
      | succ k =>
        rw [List.take_succ_cons]
        simp only [nameN]
        split
        · rename_i hc
          rw [if_pos hc] at h
          omega
        · rfl
def PPost (w : World) (s : Txt) (L : Nat) (e : Ending) (w' : World) : Prop := (match wpL L s with
  | .ok l => ∃ v, e = .returned (.tuple #[v, .int .i64 0]) ∧ SlAt w' (fun k => w.heap.size ≤ k ∧ k < w'.heap.size) l v
  | .bad k => e = .returned (.tuple #[.slice none 0 0, .int .i64 (k : Int)])) ∧ Still w w'
def ParseS (L : Nat) : Prop := ∀ (w : World) (s : Txt), s.length < 1000000 → Calls Tryz.prog fn_word_parse #[.string (S s), .int .i64 (31 - (L : Int))] w (PPost w s L)
def BrExit (gb : Nat) (ex : Int) (w7 : World) (R : Ending → World → Prop) : Prop :=
  ∃ vKind : Int, ∃ vQuoted : Bool, ∃ vText : List UInt8, ∃ vName : List UInt8, ∃ vOp : List UInt8, ∃ (vWord : Option Addr) (vWordL vWordC : Nat), w7.cell? (Addr.mk gb 0 none) = some (.int .i64 vKind) ∧ w7.cell? (Addr.mk gb 1 none) = some (.bool vQuoted) ∧ w7.cell? (Addr.mk gb 2 none) = some (.string (S vText)) ∧ w7.cell? (Addr.mk gb 3 none) = some (.string (S vName)) ∧ w7.cell? (Addr.mk gb 4 none) = some (.string (S vOp)) ∧ w7.cell? (Addr.mk gb 5 none) = some (.slice vWord vWordL vWordC) ∧ stCells (Addr.mk gb 0 none) (fun (w8 : World) => ∃ vKind1 : Int, ∃ vQuoted1 : Bool, ∃ vText1 : List UInt8, ∃ vName1 : List UInt8, ∃ vOp1 : List UInt8, ∃ (vWord1 : Option Addr) (vWordL1 vWordC1 : Nat), w8.cell? (Addr.mk gb 0 none) = some (.int .i64 vKind1) ∧ w8.cell? (Addr.mk gb 1 none) = some (.bool vQuoted1) ∧ w8.cell? (Addr.mk gb 2 none) = some (.string (S vText1)) ∧ w8.cell? (Addr.mk gb 3 none) = some (.string (S vName1)) ∧ w8.cell? (Addr.mk gb 4 none) = some (.string (S vOp1)) ∧ w8.cell? (Addr.mk gb 5 none) = some (.slice vWord1 vWordL1 vWordC1) ∧ R (.returned (.tuple #[(.agg #[(.int .i64 vKind1), (.bool vQuoted1), (.string (S vText1)), (.string (S vName1)), (.string (S vOp1)), (.slice vWord1 vWordL1 vWordC1)]), (.int .i64 ex)])) w8) 0 [(.int .i64 vKind), (.bool vQuoted), (.string (S vText)), (.string (S vName)), (.string (S vOp)), (.slice vWord vWordL vWordC)] w7
theorem brExit_spec {w7 : World} {gb : Nat} {ex : Int} {x : Pt} {wp : Option Addr} {wc : Nat} {R : Ending → World → Prop} (r : Row w7 gb 73 ⟨pcell x (.slice wp x.w.length wc)⟩) (h : ∀ w', Mod (fun k => k = gb) w7 w' → R (.returned (.tuple #[pagg x (.slice wp x.w.length wc), .int .i64 ex])) w') : BrExit gb ex w7 R :=
  ⟨_, _, _, _, _, _, _, _, r.lget rfl, r.lget rfl, r.lget rfl, r.lget rfl, r.lget rfl, r.lget rfl, stK r (by simp [pcell]) one6 fun w8 r8 m8 _ => ⟨_, _, _, _, _, _, _, _, r8.lget rfl, r8.lget rfl, r8.lget rfl, r8.lget rfl, r8.lget rfl, r8.lget rfl, h w8 m8⟩⟩
def BrPost (w : World) (L : Nat) (q : Bool) (s : Txt) (e : Ending) (w' : World) : Prop := (∃ x vw, SlAt w' (fun k => w.heap.size ≤ k ∧ k < w'.heap.size) x.w vw ∧ x.wt ≤ 12 * s.length + 20 ∧ match bracesF (wpL L) q s with
  | .ok p => e = .returned (.tuple #[pagg x vw, .int .i64 0]) ∧ setq x q = p
  | .bad k => e = .returned (.tuple #[pagg x vw, .int .i64 (k : Int)])) ∧ Still w w'
set_option maxHeartbeats 1000000 in
theorem braces_of {L : Nat} (hL : L ≤ 30) (ih : ParseS L) {g : Nat} {s0 : Txt} {v0 : Value} {q : Bool} (hr : PRow w g s0 v0 q (30 - (L : Int))) (s : Txt) (hs : s.length < 1000000) : Calls Tryz.prog fn_word_parser_braces #[.pointer (some ⟨g, 0, none⟩), .string (S s)] w (BrPost w L q s) := by
  refine word_parser_braces_calls _ _ _ _ ?_
  refine allocK fun w1 r1 s1 z1 => stK r1 (by simp) (by simp [Value.oneCell']) fun w2 r2 m2 z2 => ?_
  have s2 : Still w w2 := s1.box (Nat.le_refl _) m2
  have r2 : Row w2 w.heap.size 73 ⟨pcell (.mk 1 false [] [] [] []) (.slice none 0 0)⟩ := r2
  have hpl := paramN_le s
  -- an end
  have fin : ∀ (x : Pt) (wp : Option Addr) (wc : Nat) (ex : Nat) (w7 : World), Row w7 w.heap.size 73 ⟨pcell x (.slice wp x.w.length wc)⟩ → Still w w7 → SlAt w7 (fun k => w.heap.size < k ∧ k < w7.heap.size) x.w (.slice wp x.w.length wc) → x.wt ≤ 12 * s.length + 20 →
      (match bracesF (wpL L) q s with
        | .ok p => ex = 0 ∧ setq x q = p
        | .bad k => ex = k) → BrExit w.heap.size (ex : Int) w7 (BrPost w L q s) := by
    intro x wp wc ex w7 r7 s7 hsl hwt hm
    refine brExit_spec r7 fun w8 m8 => ⟨⟨x, _, (hsl.mod m8 fun k hk e => by omega).mono fun k hk => ⟨by omega, Nat.lt_of_lt_of_le hk.2 m8.size⟩, hwt, ?_⟩, s7.box (Nat.le_refl _) m8⟩
    cases hb : bracesF (wpL L) q s with
    | ok p =>
      rw [hb] at hm
      obtain ⟨rfl, h⟩ := hm
      exact ⟨rfl, h⟩
    | bad k =>
      rw [hb] at hm
      have hm : ex = k := hm
      rw [hm]
  -- what goes on when it is no length
  refine ⟨fun w9 => ¬ (1 < s.length ∧ s.head? = some 35 ∧ paramN (s.drop 1) = s.length - 1) ∧ Row w9 w.heap.size 73 ⟨pcell (.mk 1 false [] [] [] []) (.slice none 0 0)⟩ ∧ Still w w9, (cutHash_spec s).mono ?_, ?_⟩
  · rintro _ w3 ⟨rfl, rfl⟩
    refine .inl ⟨_, _, rfl, fun b w5 => (b = true ↔ (1 < s.length ∧ s.head? = some 35 ∧ paramN (s.drop 1) = s.length - 1)) ∧ Row w5 w.heap.size 73 ⟨pcell (.mk 1 false [] [] [] []) (.slice none 0 0)⟩ ∧ Still w w5 ∧ (b = true → (if s.head? = some 35 then s.drop 1 else s) = s.drop 1), bsel_of (fun h => ?_) (fun h => ?_), ?_⟩
    · have h : s.head? = some 35 := of_decide_eq_true h
      rw [if_pos h]
      refine bsel_of (fun hne => ?_) (fun hne => ?_)
      · have hne : ¬ s.drop 1 = [] := nt hne
        have hlen : 1 < s.length := by
          rcases Nat.lt_or_ge 1 s.length with h | h
          · exact h
          · exact absurd (List.drop_eq_nil_of_le h) hne
        refine (param_spec (s.drop 1) (by rw [List.length_drop]; omega)).mono ?_
        rintro _ w4 ⟨rfl, s4⟩
        refine .inl ⟨_, rfl, ?_, r2.still s4, s2.trans s4, fun _ => rfl⟩
        rw [decide_eq_true_eq, take_all (paramN_le _), List.length_drop]
        exact ⟨fun e => ⟨hlen, h, e⟩, fun e => e.2.2⟩
      · have hne : s.drop 1 = [] := nf hne
        refine ⟨⟨fun e => (by cases e), fun e => ?_⟩, r2, s2, fun e => (by cases e)⟩
        have := congrArg List.length hne
        rw [List.length_drop, List.length_nil] at this
        omega
    · have h : ¬ s.head? = some 35 := of_decide_eq_false h
      exact ⟨⟨fun e => (by cases e), fun e => absurd e.2.1 h⟩, r2, s2, fun e => (by cases e)⟩
    · rintro b _ w5 ⟨hb, r5, s5, hd⟩
      refine bsel_of (fun h => ?_) (fun h => ?_)
      · have hc := hb.1 h
        rw [hd h]
        refine stK r5 (by simp [pcell]) (by simp [Value.oneCell']) fun w6 r6 m6 z6 => stK r6 (by simp [ovw, pcell]) (by simp [Value.oneCell']) fun w7 r7 m7 z7 => ?_
        have r7 : Row w7 w.heap.size 73 ⟨pcell (.mk 1 false [] (s.drop 1) lenO []) (.slice none 0 0)⟩ := r7
        exact fin _ _ _ 0 w7 r7 ((s5.box (Nat.le_refl _) m6).box (Nat.le_refl _) m7) (SlAt.nil _ _ _ _) (by simp [Pt.wt, wtL]; omega) (by
          have : bracesF (wpL L) q s = .ok (.mk 1 q [] (s.drop 1) lenO []) := by unfold bracesF; rw [if_pos hc]
          rw [this]
          exact ⟨rfl, rfl⟩)
      · exact ⟨fun hc => (by rw [hb.2 hc] at h; cases h), r5, s5⟩
  rintro _ w9 ⟨hno, r9, s9⟩
  refine (param_spec s hs).mono ?_
  rintro _ w10 ⟨rfl, s10⟩
  refine .inl ⟨_, rfl, stK (r9.still s10) (by simp [pcell]) (by simp [Value.oneCell']) fun w11 r11 m11 z11 => ?_⟩
  have r11 : Row w11 w.heap.size 73 ⟨pcell (.mk 1 false [] (s.take (paramN s)) [] []) (.slice none 0 0)⟩ := r11
  have s11 : Still w w11 := (s9.trans s10).box (Nat.le_refl _) m11
  have htl : (s.take (paramN s)).length = paramN s := by rw [List.length_take]; omega
  refine ⟨s.take (paramN s), r11.lget rfl, by omega, by omega, ?_⟩
  rw [htl, Int.toNat_natCast]
  have hop := opOf_len (s.drop (paramN s))
  have hopl : (s.drop (paramN s)).length = s.length - paramN s := List.length_drop
  refine ⟨fun w20 => paramN s ≠ 0 ∧ s.drop (paramN s) ≠ [] ∧ ¬ (opOf (s.drop (paramN s)) = [] ∨ ((opOf (s.drop (paramN s)) = [61] ∨ opOf (s.drop (paramN s)) = [58, 61]) ∧ nameN (s.take (paramN s)) = 0)) ∧ Row w20 w.heap.size 73 ⟨pcell (.mk 1 false [] (s.take (paramN s)) (opOf (s.drop (paramN s))) []) (.slice none 0 0)⟩ ∧ Still w w20, (operator_spec (s.drop (paramN s))).mono ?_, ?_⟩
  · rintro _ w12 ⟨rfl, s12⟩
    refine .inl ⟨_, rfl, stK (r11.still s12) (by simp [pcell]) (by simp [Value.oneCell']) fun w13 r13 m13 z13 => ?_⟩
    have r13 : Row w13 w.heap.size 73 ⟨pcell (.mk 1 false [] (s.take (paramN s)) (opOf (s.drop (paramN s))) []) (.slice none 0 0)⟩ := r13
    have s13 : Still w w13 := (s11.trans s12).box (Nat.le_refl _) m13
    have wtx : (Pt.mk 1 false [] (s.take (paramN s)) (opOf (s.drop (paramN s))) []).wt ≤ 12 * s.length + 20 := by
      simp only [Pt.wt, wtL, List.length_nil]
      omega
    refine ⟨s.take (paramN s), r13.lget rfl, bsel_of (fun h => ?_) (fun h => bsel_of (fun h2 => ?_) (fun h2 => ?_))⟩
    · have h : s.take (paramN s) = [] := of_decide_eq_true h
      rw [take_nil hpl] at h
      refine fin _ _ _ 90 w13 r13 s13 (SlAt.nil _ _ _ _) wtx ?_
      have : bracesF (wpL L) q s = .bad 90 := by unfold bracesF; rw [if_neg hno, if_pos h]
      rw [this]
    · have h : ¬ s.take (paramN s) = [] := of_decide_eq_false h
      rw [take_nil hpl] at h
      have h2 : s.drop (paramN s) = [] := of_decide_eq_true h2
      refine fin _ _ _ 0 w13 r13 s13 (SlAt.nil _ _ _ _) wtx ?_
      have : bracesF (wpL L) q s = .ok (.mk 1 q [] (s.take (paramN s)) [] []) := by unfold bracesF; rw [if_neg hno, if_neg h, if_pos h2]
      rw [this, h2]
      exact ⟨rfl, rfl⟩
    · have h : ¬ s.take (paramN s) = [] := of_decide_eq_false h
      rw [take_nil hpl] at h
      have h2 : ¬ s.drop (paramN s) = [] := of_decide_eq_false h2
      have isn : decide (s.take (paramN s) ≠ [] ∧ nameN (s.take (paramN s)) = (s.take (paramN s)).length) = !decide (nameN (s.take (paramN s)) = 0) := by
        rw [← decide_not]
        apply decide_eq_decide.2
        refine ⟨fun e => ?_, fun e => ⟨fun e2 => e (by rw [e2]; rfl), (nameN_param s).resolve_left e⟩⟩
        rw [e.2, htl]
        exact h
      have j : ∀ w16, Row w16 w.heap.size 73 ⟨pcell (.mk 1 false [] (s.take (paramN s)) (opOf (s.drop (paramN s))) []) (.slice none 0 0)⟩ → Still w w16 → ∀ b : Bool, (b = true ↔ (opOf (s.drop (paramN s)) = [] ∨ ((opOf (s.drop (paramN s)) = [61] ∨ opOf (s.drop (paramN s)) = [58, 61]) ∧ nameN (s.take (paramN s)) = 0))) → (b = true ↔ (opOf (s.drop (paramN s)) = [] ∨ ((opOf (s.drop (paramN s)) = [61] ∨ opOf (s.drop (paramN s)) = [58, 61]) ∧ nameN (s.take (paramN s)) = 0))) ∧ Row w16 w.heap.size 73 ⟨pcell (.mk 1 false [] (s.take (paramN s)) (opOf (s.drop (paramN s))) []) (.slice none 0 0)⟩ ∧ Still w w16 := fun w16 h1 h2 b h3 => ⟨h3, h1, h2⟩
      refine ⟨fun b w18 => (b = true ↔ (opOf (s.drop (paramN s)) = [] ∨ ((opOf (s.drop (paramN s)) = [61] ∨ opOf (s.drop (paramN s)) = [58, 61]) ∧ nameN (s.take (paramN s)) = 0))) ∧ Row w18 w.heap.size 73 ⟨pcell (.mk 1 false [] (s.take (paramN s)) (opOf (s.drop (paramN s))) []) (.slice none 0 0)⟩ ∧ Still w w18, ⟨opOf (s.drop (paramN s)), r13.lget rfl, bsel_of (fun h3 => ?_) (fun h3 => ⟨opOf (s.drop (paramN s)), r13.lget rfl, bsel_of (fun h4 => ⟨s.take (paramN s), r13.lget rfl, ?_⟩) (fun h4 => ⟨opOf (s.drop (paramN s)), r13.lget rfl, bsel_of (fun h5 => ⟨s.take (paramN s), r13.lget rfl, ?_⟩) (fun h5 => ?_)⟩)⟩)⟩, ?_⟩
      · exact j _ r13 s13 _ (by rw [h3]; exact ⟨fun _ => .inl (of_decide_eq_true h3), fun _ => rfl⟩)
      · have h3 := of_decide_eq_false h3
        have h4 := of_decide_eq_true h4
        refine (IsName_spec _ (by omega)).mono ?_
        rintro _ w16 ⟨rfl, s16⟩
        refine .inl ⟨_, rfl, j _ (r13.still s16) (s13.trans s16) _ ?_⟩
        rw [isn, Bool.not_not, decide_eq_true_eq]
        exact ⟨fun e => .inr ⟨.inl h4, e⟩, fun e => (e.resolve_left h3).2⟩
      · have h3 := of_decide_eq_false h3
        have h5 := of_decide_eq_true h5
        refine (IsName_spec _ (by omega)).mono ?_
        rintro _ w16 ⟨rfl, s16⟩
        refine .inl ⟨_, rfl, j _ (r13.still s16) (s13.trans s16) _ ?_⟩
        rw [isn, Bool.not_not, decide_eq_true_eq]
        exact ⟨fun e => .inr ⟨.inr h5, e⟩, fun e => (e.resolve_left h3).2⟩
      · have h3 := of_decide_eq_false h3
        have h4 := of_decide_eq_false h4
        have h5 := of_decide_eq_false h5
        exact j _ r13 s13 _ ⟨fun e => (by cases e), fun e => by rcases (e.resolve_left h3).1 with e | e; exact absurd e h4; exact absurd e h5⟩
      · rintro b _ w18 ⟨hb, r18, s18⟩
        refine bsel_of (fun h6 => ?_) (fun h6 => ⟨h, h2, fun hc => (by rw [hb.2 hc] at h6; cases h6), r18, s18⟩)
        refine fin _ _ _ 90 w18 r18 s18 (SlAt.nil _ _ _ _) wtx ?_
        have : bracesF (wpL L) q s = .bad 90 := by unfold bracesF; rw [if_neg hno, if_neg h, if_neg h2, if_pos (hb.1 h6)]
        rw [this]
  rintro _ w20 ⟨h, h2, h3, r20, s20⟩
  have hbr : bracesF (wpL L) q s = (wpL L ((s.drop (paramN s)).drop (opOf (s.drop (paramN s))).length)).and fun w => if hasL w = true then .bad 90 else .ok (.mk 1 q [] (s.take (paramN s)) (opOf (s.drop (paramN s))) (if q = true then qdL [] w else w)) := by
    unfold bracesF
    rw [if_neg hno, if_neg h, if_neg h2, if_neg h3]
  have sd := s20.toDrew
  have rd := r20.still (drew_still w20)
  have hrd : PRow w20.drew g s0 v0 q (30 - (L : Int)) := hr.still sd
  have zd : w20.drew.heap.size = w20.heap.size := rfl
  have z20 : w.heap.size < w20.heap.size := r20.lt
  refine ⟨fun wq => wq = w20.drew, rfl, opOf (s.drop (paramN s)), fun wq hq => by subst hq; exact rd.lget rfl, by omega, by omega, _, fun wq hq => by subst hq; rw [add_row]; exact hrd.depth, ?_⟩
  rw [Int.toNat_natCast, show IntKind.i64.wrap (30 - (L : Int) + 1) = 31 - (L : Int) by rw [wrap_i64 (by omega) (by omega)]; omega]
  have hinl : ((s.drop (paramN s)).drop (opOf (s.drop (paramN s))).length).length ≤ s.length - (paramN s + (opOf (s.drop (paramN s))).length) := by rw [List.length_drop, List.length_drop]; omega
  refine (ih w20.drew _ (by omega)).mono ?_
  rintro e21 w21 ⟨hp, s21⟩
  -- what the word came to
  have hres : ∃ (r8 : Nat) (l : List Pt) (wp : Option Addr) (wc : Nat), e21 = .returned (.tuple #[.slice wp l.length wc, .int .i64 (r8 : Int)]) ∧ SlAt w21 (fun k => w20.heap.size ≤ k ∧ k < w21.heap.size) l (.slice wp l.length wc) ∧ wtL l ≤ 12 * ((s.drop (paramN s)).drop (opOf (s.drop (paramN s))).length).length ∧ (match wpL L ((s.drop (paramN s)).drop (opOf (s.drop (paramN s))).length) with
      | .ok l' => r8 = 0 ∧ l' = l
      | .bad k => r8 = k ∧ k ≠ 0 ∧ l = []) := by
    cases hw : wpL L ((s.drop (paramN s)).drop (opOf (s.drop (paramN s))).length) with
    | ok l =>
      rw [hw] at hp
      obtain ⟨v, he, hsl⟩ := hp
      obtain ⟨wp, wc, rfl⟩ := hsl.form
      exact ⟨0, l, wp, wc, he, hsl, wpL_wt L _ _ hw, rfl, rfl⟩
    | bad k =>
      rw [hw] at hp
      exact ⟨k, [], none, 0, hp, SlAt.nil _ _ _ _, Nat.zero_le _, rfl, fun e => wpL_nz L _ (by rw [hw, e]), rfl⟩
  obtain ⟨r8, l, wp, wc, rfl, hsl, hwl, hm⟩ := hres
  refine .inl ⟨_, _, _, _, rfl, stK (rd.still s21) (by simp [pcell]) (by simp [Value.oneCell']) fun w22 r22 m22 z22 => ?_⟩
  have r22 : Row w22 w.heap.size 73 ⟨pcell (.mk 1 false [] (s.take (paramN s)) (opOf (s.drop (paramN s))) l) (.slice wp l.length wc)⟩ := r22
  have s22 : Still w w22 := (sd.trans s21).box (Nat.le_refl _) m22
  have hsl22 : SlAt w22 (fun k => w.heap.size < k ∧ k < w22.heap.size) l (.slice wp l.length wc) := (hsl.mod m22 fun k hk e => by omega).mono fun k hk => ⟨by omega, Nat.lt_of_lt_of_le hk.2 m22.size⟩
  have z22 : w.heap.size < w22.heap.size := r22.lt
  -- the number, and the word, in the end
  have endQ : ∀ (ex : Nat) (w25 : World), (r8 = 0 → (if hasL l = true then ex = 90 else ex = 0)) → (r8 ≠ 0 → ex = r8) → Row w25 w.heap.size 73 ⟨pcell (.mk 1 false [] (s.take (paramN s)) (opOf (s.drop (paramN s))) l) (.slice wp l.length wc)⟩ → Still w w25 → SlAt w25 (fun k => w.heap.size < k ∧ k < w25.heap.size) l (.slice wp l.length wc) →
      ∃ xJ6 : World → Prop, (someK (some (Addr.mk g 0 none)) fun a1 => ∃ v10 : Bool, w25.cell? (a1.add 2) = some (.bool v10) ∧ bsel v10 (∃ (v11 : Option Addr) (vL1 vC1 : Nat), w25.cell? (Addr.mk w.heap.size 5 none) = some (.slice v11 vL1 vC1) ∧ Calls Tryz.prog fn_word_quoted #[.slice v11 vL1 vC1] w25 (fun ed w26 => (∃ (r10 : Option Addr) (rL1 rC1 : Nat), ed = .returned (.slice r10 rL1 rC1) ∧ stCells (Addr.mk w.heap.size 5 none) (fun w27 => xJ6 w27) 0 [.slice r10 rL1 rC1] w26) ∨ (∃ ch, ed = .panicked ch ∧ BrPost w L q s (.panicked ch) w26))) (xJ6 w25)) ∧ ∀ (us7 : Nat → Value) (w28 : World), xJ6 w28 → BrExit w.heap.size (ex : Int) w28 (BrPost w L q s) := by
    intro ex w25 he0 he1 r25 s25 hsl25
    refine ⟨fun w28 => BrExit w.heap.size (ex : Int) w28 (BrPost w L q s), ⟨q, by rw [add_row]; exact (show PRow w25 g s0 v0 q (30 - (L : Int)) from hr.still s25).quoted, bsel_of (fun hq => ⟨_, _, _, r25.lget rfl, (quoted_spec hsl25 (by omega)).mono ?_⟩) (fun hq => ?_)⟩, fun _ w28 h => h⟩
    · rintro _ w26 ⟨v26, rfl, hq26, s26⟩
      obtain ⟨qp, qc, rfl⟩ := hq26.form
      refine .inl ⟨_, _, _, rfl, stK (r25.still s26) (by simp [pcell]) (by simp [Value.oneCell']) fun w27 r27 m27 z27 => ?_⟩
      have r27 : Row w27 w.heap.size 73 ⟨pcell (.mk 1 false [] (s.take (paramN s)) (opOf (s.drop (paramN s))) (qdL [] l)) (.slice qp (qdL [] l).length qc)⟩ := r27
      have z25 : w.heap.size < w25.heap.size := r25.lt
      have hwq := wt_qdL l []
      simp only [wtL] at hwq
      refine fin _ _ _ ex w27 r27 ((s25.trans s26).box (Nat.le_refl _) m27) ((hq26.mod m27 fun k hk e => by omega).mono fun k hk => ⟨by omega, Nat.lt_of_lt_of_le hk.2 m27.size⟩) (by simp only [Pt.wt, List.length_nil]; omega) ?_
      rw [hbr]
      cases hw : wpL L ((s.drop (paramN s)).drop (opOf (s.drop (paramN s))).length) with
      | bad k =>
        rw [hw] at hm
        obtain ⟨h8, hk, _⟩ := hm
        exact (he1 (by omega)).trans h8
      | ok l' =>
        rw [hw] at hm
        obtain ⟨h8, rfl⟩ := hm
        have := he0 h8
        simp only [Rs.and]
        by_cases hh : hasL l' = true
        · rw [if_pos hh] at this ⊢
          exact this
        · rw [if_neg hh] at this ⊢
          rw [if_pos hq]
          exact ⟨this, by rw [hq]; rfl⟩
    · refine fin _ _ _ ex w25 r25 s25 hsl25 (by simp only [Pt.wt, List.length_nil]; omega) ?_
      rw [hbr]
      cases hw : wpL L ((s.drop (paramN s)).drop (opOf (s.drop (paramN s))).length) with
      | bad k =>
        rw [hw] at hm
        obtain ⟨h8, hk, _⟩ := hm
        exact (he1 (by omega)).trans h8
      | ok l' =>
        rw [hw] at hm
        obtain ⟨h8, rfl⟩ := hm
        have := he0 h8
        simp only [Rs.and]
        by_cases hh : hasL l' = true
        · rw [if_pos hh] at this ⊢
          exact this
        · rw [if_neg hh] at this ⊢
          rw [if_neg (by rw [hq]; decide)]
          exact ⟨this, by rw [hq]; rfl⟩
  refine ⟨fun ex w25 => ∃ n : Nat, ex = (n : Int) ∧ (r8 = 0 → (if hasL l = true then n = 90 else n = 0)) ∧ (r8 ≠ 0 → n = r8) ∧ Row w25 w.heap.size 73 ⟨pcell (.mk 1 false [] (s.take (paramN s)) (opOf (s.drop (paramN s))) l) (.slice wp l.length wc)⟩ ∧ Still w w25 ∧ SlAt w25 (fun k => w.heap.size < k ∧ k < w25.heap.size) l (.slice wp l.length wc), ⟨fun b w24 => (b = true ↔ r8 = 0 ∧ hasL l = true) ∧ Row w24 w.heap.size 73 ⟨pcell (.mk 1 false [] (s.take (paramN s)) (opOf (s.drop (paramN s))) l) (.slice wp l.length wc)⟩ ∧ Still w w24 ∧ SlAt w24 (fun k => w.heap.size < k ∧ k < w24.heap.size) l (.slice wp l.length wc), bsel_of (fun h8 => ⟨_, _, _, r22.lget rfl, (has_spec hsl22 (by omega)).mono ?_⟩) (fun h8 => ⟨⟨fun e => (by cases e), fun e => ?_⟩, r22, s22, hsl22⟩), ?_⟩, ?_⟩
  · rintro _ w23 ⟨rfl, s23⟩
    have h8 : (r8 : Int) = 0 := of_decide_eq_true h8
    exact .inl ⟨_, rfl, ⟨fun e => ⟨by omega, e⟩, fun e => e.2⟩, r22.still s23, s22.trans s23, (hsl22.still s23).mono fun k hk => ⟨hk.1, Nat.lt_of_lt_of_le hk.2 s23.size⟩⟩
  · have h8 : ¬ (r8 : Int) = 0 := of_decide_eq_false h8
    exact absurd e.1 (by omega)
  · rintro b _ w24 ⟨hb, r24, s24, hsl24⟩
    refine bsel_of (fun h9 => ?_) (fun h9 => ?_)
    · have := hb.1 h9
      exact ⟨90, rfl, fun _ => by rw [if_pos this.2], fun e => absurd this.1 e, r24, s24, hsl24⟩
    · refine ⟨r8, rfl, fun e => ?_, fun _ => rfl, r24, s24, hsl24⟩
      rw [if_neg fun hh => by rw [hb.2 ⟨e, hh⟩] at h9; cases h9]
      exact e
  · rintro _ _ w25 ⟨n, rfl, he0, he1, r25, s25, hsl25⟩
    exact endQ n w25 he0 he1 r25 s25 hsl25
def DPost (w : World) (g B : Nat) (l : List Pt) (q : Bool) (d : Int) (s : Txt) (x : Rs (Pt × Nat)) (e : Ending) (w' : World) : Prop := (match x with
  | .ok p => e = .returned (.int .i64 0) ∧ PS w' g B (s.drop p.2) (addP l p.1) q d
  | .bad k => e = .returned (.int .i64 (k : Int)) ∧ ∃ s' v', PRow w' g s' v' q d) ∧ MP g B w w'
theorem unit_bracket {c : UInt8} {r t : Txt} (hc : c = 40 ∨ c = 123) (h : unitD 30 (36 :: c :: r) = some t) : t.length + 3 ≤ (36 :: c :: r).length := by
  rcases hc with rfl | rfl
  · have h : untilD 29 41 r = some t := h
    have := untilD_takes _ _ _ _ h
    simp only [List.length_cons]; omega
  · have h : untilD 29 125 r = some t := h
    have := untilD_takes _ _ _ _ h
    simp only [List.length_cons]; omega
theorem dollarF_group {P : Txt → Rs (List Pt)} {q : Bool} {c : UInt8} {r : Txt} (hc : c = 40 ∨ c = 123) : dollarF P q (36 :: c :: r) = (match unitD 30 (36 :: c :: r) with
    | none => .bad 90
    | some _ => if c = 123 then (bracesF P q (r.take (unitN (36 :: c :: r) - 3))).and fun p => .ok (p, unitN (36 :: c :: r))
      else if 4 < unitN (36 :: c :: r) ∧ (36 :: c :: r)[2]? = some 40 ∧ (36 :: c :: r)[unitN (36 :: c :: r) - 2]? = some 41 then .ok (.mk 3 q (((36 :: c :: r).drop 3).take (unitN (36 :: c :: r) - 5)) [] [] [], unitN (36 :: c :: r))
      else .ok (.mk 2 q (r.take (unitN (36 :: c :: r) - 3)) [] [] [], unitN (36 :: c :: r))) := by
  unfold dollarF
  have hh : ((36 :: c :: r : Txt).drop 1).head? = some 40 ∨ ((36 :: c :: r : Txt).drop 1).head? = some 123 := by
    rcases hc with rfl | rfl
    · exact .inl rfl
    · exact .inr rfl
  rw [if_pos hh]
  cases hu : unitD 30 (36 :: c :: r) with
  | none => rfl
  | some t =>
    have := (unitN_pos hu).1
    rw [this]
    have e : (((36 :: c :: r : Txt).drop 1).head? = some 123) = (c = 123) := by
      show (some c = some 123) = _
      rw [Option.some.injEq]
    simp only [e]
    rfl
theorem take_drop2 (s : Txt) (n a k : Nat) (hk : k ≤ n - a) : ((s.take n).drop a).take k = (s.drop a).take k := by
  rw [List.drop_take, List.take_take, Nat.min_eq_left hk]
theorem get_take {s : Txt} {n i : Nat} (h : i < n) : (s.take n)[i]? = s[i]? := by rw [List.getElem?_take, if_pos h]
theorem byte_some {s : Txt} {i : Nat} {b c : UInt8} (h : s[i]? = some b) : (s[i]? = some c) ↔ ((b.toNat : Int) = (c.toNat : Int)) := by
  rw [h, Option.some.injEq]
  exact byte_eq.symm
set_option maxHeartbeats 1000000 in
theorem group_of {L : Nat} (hL : L ≤ 30) (ih : ParseS L) {g B : Nat} {c : UInt8} {r : Txt} {l : List Pt} {q : Bool} (hs : PS w g B (36 :: c :: r) l q (30 - (L : Int))) (hg : g < B) (hB : B ≤ w.heap.size) (hc : c = 40 ∨ c = 123) (hl : (36 :: c :: r).length < 1000000) (hw : wtL l + 12 * (36 :: c :: r).length < 500000000) :
    Calls Tryz.prog fn_word_parser_group #[.pointer (some ⟨g, 0, none⟩)] w (DPost w g B l q (30 - (L : Int)) (36 :: c :: r) (dollarF (wpL L) q (36 :: c :: r))) := by
  obtain ⟨v, hr, ho⟩ := hs
  refine word_parser_group_calls _ _ _ ?_
  refine ⟨_, hr.text, (Unit_spec _ hl).mono ?_⟩
  rintro _ w1 ⟨rfl, s1⟩
  have hr1 : PRow w1 g _ v q _ := hr.still s1
  have ho1 := ho.still s1
  rw [dollarF_group hc]
  refine .inl ⟨_, rfl, ?_⟩
  cases hu : unitD 30 (36 :: c :: r) with
  | none =>
    have h0 : unitN (36 :: c :: r) = 0 := by unfold unitN; rw [hu]
    rw [h0]
    exact bsel_of (fun _ => ⟨⟨rfl, _, _, hr1⟩, s1.mp⟩) (fun h => absurd (of_decide_eq_false h) (by decide))
  | some t =>
    obtain ⟨h1, h2, h3⟩ := unitN_pos hu
    have h4 := unit_bracket hc hu
    have h5 : 3 ≤ unitN (36 :: c :: r) := by omega
    generalize unitN (36 :: c :: r) = n at h1 h2 h3 h5
    dsimp only
    have e1 : IntKind.i64.wrap ((n : Int) - 1) = ((n - 1 : Nat) : Int) := by rw [wrap_i64 (by omega) (by omega)]; omega
    have e2 : IntKind.i64.wrap ((n : Int) - 2) = ((n - 2 : Nat) : Int) := by rw [wrap_i64 (by omega) (by omega)]; omega
    have htn : ((36 :: c :: r).take n).length = n := by rw [List.length_take]; omega
    refine bsel_of (fun h => absurd (of_decide_eq_true h) (by omega)) (fun _ => ⟨_, hr1.text, by omega, by omega, by decide, c, ?_, ?_⟩)
    · rw [Int.toNat_natCast]
      rw [get_take (show Int.toNat 1 < n by show 1 < n; omega)]
      rfl
    rw [Int.toNat_natCast, e1, e2]
    have zz := s1.size
    -- a part of its own is put
    have put : ∀ (x : Pt) (w6 : World), w6 = w1 → x.q = false → x.w = [] → x.wt ≤ 12 * (36 :: c :: r).length + 20 → Calls Tryz.prog fn_word_parser_put #[.pointer (some ⟨g, 0, none⟩), pagg x (.slice none 0 0), .int .i64 (n : Int)] w6 (fun ed w7 => (ed = .returned (.tuple #[]) ∧ DPost w g B l q (30 - (L : Int)) (36 :: c :: r) (.ok (.mk x.k q x.t x.n x.o x.w, n)) (.returned (.int .i64 0)) w7) ∨ (∃ ch, ed = .panicked ch ∧ DPost w g B l q (30 - (L : Int)) (36 :: c :: r) (.ok (.mk x.k q x.t x.n x.o x.w, n)) (.panicked ch) w7)) := by
      rintro x _ rfl hq hxw hwt
      refine (put_spec (x := x) (n := n) hr1 ho1 hg (by omega) (by rw [hxw]; exact SlAt.nil _ _ _ _) h3 (by omega)).mono ?_
      rintro _ w7 ⟨rfl, h7, m7⟩
      have e : setq x q = .mk x.k q x.t x.n x.o x.w := by rw [setq, hq, Bool.false_or]
      rw [e] at h7
      exact .inl ⟨rfl, ⟨rfl, h7⟩, s1.mp.trans m7⟩
    refine bsel_of (fun h => ?_) (fun h => ?_)
    · have hc3 : c = 123 := byte_eq.1 (of_decide_eq_true h)
      subst hc3
      have hin : ((((36 :: 123 :: r : Txt).take n).drop (Int.toNat 2)).take (Int.toNat ((n - 1 : Nat) : Int) - Int.toNat 2)) = r.take (n - 3) := by
        rw [Int.toNat_natCast]
        show ((((36 :: 123 :: r : Txt).take n).drop 2).take (n - 1 - 2)) = _
        rw [take_drop2 _ _ _ _ (by omega), show n - 1 - 2 = n - 3 by omega]
        rfl
      have hil : (r.take (n - 3)).length ≤ r.length := by rw [List.length_take]; omega
      simp only [List.length_cons] at hl hw
      refine ⟨by decide, by omega, by omega, ?_⟩
      rw [hin, if_pos rfl]
      refine (braces_of hL ih hr1 (r.take (n - 3)) (by omega)).mono ?_
      rintro e2 w2 ⟨⟨x, vw, hsl, hwt, hm⟩, s2⟩
      obtain ⟨wp, wc, rfl⟩ := hsl.form
      have hr2 : PRow w2 g _ v q _ := hr1.still s2
      have ho2 := ho1.still s2
      have zz2 := s2.size
      -- the part is put, whatever the number
      have go : ∀ (k : Nat) (Q : Ending → World → Prop), (∀ w5, PS w5 g B ((36 :: 123 :: r).drop n) (addP l (setq x q)) q (30 - (L : Int)) → MP g B w w5 → Q (.returned (.int .i64 (k : Int))) w5) → e2 = .returned (.tuple #[pagg x (.slice wp x.w.length wc), .int .i64 (k : Int)]) →
          (∃ rKind : Int, ∃ rQuoted : Bool, ∃ rText : List UInt8, ∃ rName : List UInt8, ∃ rOp : List UInt8, ∃ (rWord : Option Addr) (rWordL rWordC : Nat), ∃ r1 : Int, e2 = .returned (.tuple #[(.agg #[(.int .i64 rKind), (.bool rQuoted), (.string (S rText)), (.string (S rName)), (.string (S rOp)), (.slice rWord rWordL rWordC)]), (.int .i64 r1)]) ∧ letW (w2.alloc (.cells #[(.int .i64 0), (.bool false), (.string (S ([] : List UInt8))), (.string (S ([] : List UInt8))), (.string (S ([] : List UInt8))), (.slice none 0 0)] 73)) (fun (w3 : World) => stCells (Addr.mk w2.heap.size 0 none) (fun (w4 : World) => ∃ vKind : Int, ∃ vQuoted : Bool, ∃ vText : List UInt8, ∃ vName : List UInt8, ∃ vOp : List UInt8, ∃ (vWord : Option Addr) (vWordL vWordC : Nat), w4.cell? (Addr.mk w2.heap.size 0 none) = some (.int .i64 vKind) ∧ w4.cell? (Addr.mk w2.heap.size 1 none) = some (.bool vQuoted) ∧ w4.cell? (Addr.mk w2.heap.size 2 none) = some (.string (S vText)) ∧ w4.cell? (Addr.mk w2.heap.size 3 none) = some (.string (S vName)) ∧ w4.cell? (Addr.mk w2.heap.size 4 none) = some (.string (S vOp)) ∧ w4.cell? (Addr.mk w2.heap.size 5 none) = some (.slice vWord vWordL vWordC) ∧ Calls Tryz.prog fn_word_parser_put #[(.pointer (some (Addr.mk g 0 none))), (.agg #[(.int .i64 vKind), (.bool vQuoted), (.string (S vText)), (.string (S vName)), (.string (S vOp)), (.slice vWord vWordL vWordC)]), (.int .i64 (n : Int))] w4 (fun ed2 w5 => (ed2 = .returned (.tuple #[]) ∧ Q (.returned (.int .i64 r1)) w5) ∨ (∃ ch2, ed2 = .panicked ch2 ∧ Q (.panicked ch2) w5))) 0 [(.int .i64 rKind), (.bool rQuoted), (.string (S rText)), (.string (S rName)), (.string (S rOp)), (.slice rWord rWordL rWordC)] w3)) := by
        intro k Q hQ he
        refine ⟨x.k, x.q, x.t, x.n, x.o, wp, x.w.length, wc, (k : Int), he, boxK rfl one6 fun w4 r4 s4 z4 => ⟨x.k, x.q, x.t, x.n, x.o, wp, x.w.length, wc, r4.lget rfl, r4.lget rfl, r4.lget rfl, r4.lget rfl, r4.lget rfl, r4.lget rfl, ?_⟩⟩
        refine (put_spec (x := x) (vw := .slice wp x.w.length wc) (n := n) (hr2.still s4) (ho2.still s4) hg (by omega) ((hsl.still s4).mono fun j hj => ⟨by have := hj.1; omega, by have := hj.2; omega, fun e => by have := (ho1.ownLt e).2; have := hj.1; omega⟩) h3 (by omega)).mono ?_
        rintro _ w5 ⟨rfl, h5, m5⟩
        exact .inl ⟨rfl, hQ w5 h5 (((s1.trans s2).trans s4).mp.trans m5)⟩
      cases hb : bracesF (wpL L) q (r.take (n - 3)) with
      | ok p =>
        rw [hb] at hm
        obtain ⟨he, hp⟩ := hm
        exact .inl (go 0 _ (fun w5 h5 m5 => ⟨⟨rfl, by rw [← hp]; exact h5⟩, m5⟩) he)
      | bad k =>
        rw [hb] at hm
        refine .inl (go k _ (fun w5 h5 m5 => ⟨⟨rfl, ?_⟩, m5⟩) hm)
        obtain ⟨v5, h5, _⟩ := h5
        exact ⟨_, _, h5⟩
    · have hc3 : ¬ c = 123 := fun e => of_decide_eq_false h (byte_eq.2 e)
      rw [if_neg hc3]
      refine ⟨fun b w6 => w6 = w1 ∧ (b = true ↔ (4 < n ∧ (36 :: c :: r)[2]? = some 40 ∧ (36 :: c :: r)[n - 2]? = some 41)), bsel_of (fun h6 => ?_) (fun h6 => ⟨rfl, fun e => (by cases e), fun e => ?_⟩), ?_⟩
      · have h6 : 4 < n := by have := of_decide_eq_true h6; omega
        obtain ⟨b1, hb1⟩ : ∃ b1, (36 :: c :: r)[2]? = some b1 := ⟨_, List.getElem?_eq_getElem (by omega)⟩
        obtain ⟨b2, hb2⟩ : ∃ b2, (36 :: c :: r)[n - 2]? = some b2 := ⟨_, List.getElem?_eq_getElem (by omega)⟩
        refine ⟨by decide, b1, by rw [get_take (show Int.toNat 2 < n by show 2 < n; omega)]; exact hb1, bsel_of (fun h7 => ⟨by omega, b2, by rw [Int.toNat_natCast, get_take (by omega)]; exact hb2, rfl, ?_⟩) (fun h7 => ⟨rfl, fun e => (by cases e), fun e => ?_⟩)⟩
        · rw [decide_eq_true_eq, byte_some hb1, byte_some hb2]
          exact ⟨fun e => ⟨h6, of_decide_eq_true h7, e⟩, fun e => e.2.2⟩
        · rw [byte_some hb1] at e
          exact absurd e.2.1 (of_decide_eq_false h7)
      · have := of_decide_eq_false h6
        omega
      · rintro b _ w6 ⟨rfl, hb⟩
        refine bsel_of (fun h8 => ?_) (fun h8 => ?_)
        · have h9 := hb.1 h8
          rw [if_pos h9]
          have ht : ((((36 :: c :: r : Txt).take n).drop (Int.toNat 3)).take (Int.toNat ((n - 2 : Nat) : Int) - Int.toNat 3)) = ((36 :: c :: r).drop 3).take (n - 5) := by
            rw [Int.toNat_natCast]
            show ((((36 :: c :: r : Txt).take n).drop 3).take (n - 2 - 3)) = _
            rw [take_drop2 _ _ _ _ (by omega), show n - 2 - 3 = n - 5 by omega]
          rw [ht]
          exact ⟨by decide, by omega, by omega, put (.mk 3 false (((36 :: c :: r).drop 3).take (n - 5)) [] [] []) w6 rfl rfl rfl (by simp only [Pt.wt, wtL, List.length_nil, List.length_take]; omega)⟩
        · rw [if_neg fun h9 => by rw [hb.2 h9] at h8; cases h8]
          have ht : ((((36 :: c :: r : Txt).take n).drop (Int.toNat 2)).take (Int.toNat ((n - 1 : Nat) : Int) - Int.toNat 2)) = r.take (n - 3) := by
            rw [Int.toNat_natCast]
            show ((((36 :: c :: r : Txt).take n).drop 2).take (n - 1 - 2)) = _
            rw [take_drop2 _ _ _ _ (by omega), show n - 1 - 2 = n - 3 by omega]
            rfl
          rw [ht]
          exact ⟨by decide, by omega, by omega, put (.mk 2 false (r.take (n - 3)) [] [] []) w6 rfl rfl rfl (by simp only [Pt.wt, wtL, List.length_nil, List.length_take]; omega)⟩
theorem special_has (c : UInt8) : ([48, 49, 50, 51, 52, 53, 54, 55, 56, 57, 35, 63, 64, 42] : Txt).contains c = isSpec c := by
  have h : ∀ n : Nat, n < 256 → ([48, 49, 50, 51, 52, 53, 54, 55, 56, 57, 35, 63, 64, 42] : Txt).contains (UInt8.ofNat n) = isSpec (UInt8.ofNat n) := by decide +kernel
  have := h c.toNat c.toNat_lt
  rwa [UInt8.ofNat_toNat] at this
theorem pf_one (x : UInt8) (r : Txt) : pf [x] r = decide (r.head? = some x) := by
  rw [pf_isPrefixOf]
  cases r with
  | nil => rfl
  | cons c r =>
    rw [Bool.eq_iff_iff]
    simp [List.isPrefixOf]
    exact eq_comm
set_option maxHeartbeats 1000000 in
theorem dollar_of {L : Nat} (hL : L ≤ 30) (ih : ParseS L) {g B : Nat} {r : Txt} {l : List Pt} {q : Bool} (hs : PS w g B (36 :: r) l q (30 - (L : Int))) (hg : g < B) (hB : B ≤ w.heap.size) (hl : (36 :: r).length < 1000000) (hw : wtL l + 12 * (36 :: r).length < 500000000) :
    Calls Tryz.prog fn_word_parser_dollar #[.pointer (some ⟨g, 0, none⟩)] w (DPost w g B l q (30 - (L : Int)) (36 :: r) (dollarF (wpL L) q (36 :: r))) := by
  have hs' := hs
  obtain ⟨v, hr, ho⟩ := hs
  simp only [List.length_cons] at hl hw
  refine word_parser_dollar_calls _ _ _ ?_
  have e1 : (36 :: r : Txt).drop (Int.toNat 1) = r := rfl
  refine ⟨_, hr.text, by decide, by simp only [List.length_cons]; omega, ?_⟩
  rw [e1]
  refine (Name_spec r (by omega)).mono ?_
  rintro _ w1 ⟨rfl, s1⟩
  have hnl := nameN_le r
  -- what the name is
  refine .inl ⟨_, rfl, fun nm w4 => nm = r.take (if 0 < nameN r then nameN r else specN r) ∧ Still w w4, ⟨fun b w3 => (b = true ↔ nameN r = 0 ∧ 0 < specN r) ∧ Still w w3, bsel_of (fun h => bsel_of (fun h2 => ?_) (fun h2 => ?_)) (fun h => ?_), ?_⟩, ?_⟩
  · have h : r.take (nameN r) = [] := of_decide_eq_true h
    rw [take_nil hnl] at h
    have h2 : ¬ r = [] := nt h2
    obtain ⟨c, y, rfl⟩ := List.exists_cons_of_ne_nil h2
    refine ⟨by decide, c, rfl, (index_spec _ c).mono ?_⟩
    rintro _ w2 ⟨⟨n, rfl, hn⟩, rfl⟩
    rw [special_has] at hn
    refine .inl ⟨_, rfl, ?_, s1⟩
    rw [hn]
    simp only [specN]
    refine ⟨fun e => ⟨h, by rw [if_pos e]; decide⟩, fun e => ?_⟩
    have := e.2
    split at this
    · assumption
    · omega
  · have h2 : r = [] := nf h2
    subst h2
    exact ⟨⟨fun e => (by cases e), fun e => absurd e.2 (by decide)⟩, s1⟩
  · have h : ¬ r.take (nameN r) = [] := of_decide_eq_false h
    rw [take_nil hnl] at h
    exact ⟨⟨fun e => (by cases e), fun e => absurd e.1 h⟩, s1⟩
  · rintro b _ w3 ⟨hb, s3⟩
    refine bsel_of (fun h => ?_) (fun h => ?_)
    · have hh := hb.1 h
      have h1 := specN_one r
      have h2 := specN_le r
      refine ⟨by decide, by omega, ?_, s3⟩
      rw [if_neg (by omega), show specN r = 1 by omega]
      rfl
    · refine ⟨?_, s3⟩
      by_cases h0 : 0 < nameN r
      · rw [if_pos h0]
      · have : ¬ 0 < specN r := fun e => by rw [hb.2 ⟨by omega, e⟩] at h; cases h
        rw [if_neg h0]
        congr 1
        omega
  rintro _ _ w4 ⟨rfl, s4⟩
  refine ⟨fun b w7 => (b = true ↔ r.head? = some 40 ∨ r.head? = some 123) ∧ Still w w7, (hasPrefix_spec r [40]).mono ?_, ?_⟩
  · rintro _ w5 ⟨rfl, rfl⟩
    rw [pf_one]
    refine .inl ⟨_, rfl, bsel_of (fun h => ⟨?_, s4⟩) (fun h => (hasPrefix_spec r [123]).mono ?_)⟩
    · rw [h]
      exact ⟨fun _ => .inl (of_decide_eq_true h), fun _ => rfl⟩
    · rintro _ w6 ⟨rfl, rfl⟩
      rw [pf_one]
      refine .inl ⟨_, rfl, ?_, s4⟩
      rw [decide_eq_true_eq]
      exact ⟨.inr, fun e => e.resolve_left (of_decide_eq_false h)⟩
  rintro b _ w7 ⟨hb, s7⟩
  have hz := s7.size
  refine bsel_of (fun h => ?_) (fun h => ?_)
  · have hh := hb.1 h
    obtain ⟨c, y, rfl⟩ : ∃ c y, r = c :: y := by
      cases r with
      | nil => rcases hh with e | e <;> cases e
      | cons c y => exact ⟨c, y, rfl⟩
    have hc : c = 40 ∨ c = 123 := by simpa using hh
    refine (group_of hL ih (hs'.still s7) hg (by omega) hc (by simp only [List.length_cons] at hl ⊢; omega) (by simp only [List.length_cons] at hw ⊢; omega)).mono ?_
    rintro e8 w8 ⟨h8, m8⟩
    cases hd : dollarF (wpL L) q (36 :: c :: y) with
    | ok p =>
      rw [hd] at h8
      obtain ⟨rfl, h9⟩ := h8
      exact .inl ⟨_, rfl, ⟨rfl, h9⟩, s7.mp.trans m8⟩
    | bad k =>
      rw [hd] at h8
      obtain ⟨rfl, h9⟩ := h8
      exact .inl ⟨_, rfl, ⟨rfl, h9⟩, s7.mp.trans m8⟩
  have hno : ¬ (r.head? = some 40 ∨ r.head? = some 123) := fun e => by rw [hb.2 e] at h; cases h
  have hr7 : PRow w7 g _ v q _ := hr.still s7
  have ho7 := ho.still s7
  have put : ∀ (x : Pt) (n : Nat), x.q = false → x.w = [] → x.wt ≤ 12 * (r.length + 1) + 20 → n ≤ r.length + 1 → dollarF (wpL L) q (36 :: r) = .ok (.mk x.k q x.t x.n x.o x.w, n) → Calls Tryz.prog fn_word_parser_put #[.pointer (some ⟨g, 0, none⟩), pagg x (.slice none 0 0), .int .i64 (n : Int)] w7 (fun ed w9 => (ed = .returned (.tuple #[]) ∧ DPost w g B l q (30 - (L : Int)) (36 :: r) (dollarF (wpL L) q (36 :: r)) (.returned (.int .i64 0)) w9) ∨ (∃ ch, ed = .panicked ch ∧ DPost w g B l q (30 - (L : Int)) (36 :: r) (dollarF (wpL L) q (36 :: r)) (.panicked ch) w9)) := by
    intro x n hq hxw hwt hn hd
    refine (put_spec (x := x) (n := n) hr7 ho7 hg (by omega) (by rw [hxw]; exact SlAt.nil _ _ _ _) (by simp only [List.length_cons]; omega) (by omega)).mono ?_
    rintro _ w9 ⟨rfl, h9, m9⟩
    rw [hd]
    have e : setq x q = .mk x.k q x.t x.n x.o x.w := by rw [setq, hq, Bool.false_or]
    rw [e] at h9
    exact .inl ⟨rfl, ⟨rfl, h9⟩, s7.mp.trans m9⟩
  have hd0 : dollarF (wpL L) q (36 :: r) = if 0 < nameN r then .ok (.mk 1 q [] (r.take (nameN r)) [] [], nameN r + 1) else if 0 < specN r then .ok (.mk 1 q [] (r.take 1) [] [], 2) else .ok (.mk 0 q [36] [] [] [], 1) := by
    unfold dollarF
    simp only [List.drop_succ_cons, List.drop_zero]
    rw [if_neg hno]
  have hsp1 := specN_one r
  have hspl := specN_le r
  refine bsel_of (fun h5 => ?_) (fun h5 => ?_)
  · have h5 : ¬ r.take (if 0 < nameN r then nameN r else specN r) = [] := nt h5
    rw [take_nil (by split <;> omega)] at h5
    have hlen : (r.take (if 0 < nameN r then nameN r else specN r)).length = (if 0 < nameN r then nameN r else specN r) := by
      rw [List.length_take]
      split <;> omega
    rw [hlen, show IntKind.i64.wrap (1 + ((if 0 < nameN r then nameN r else specN r : Nat) : Int)) = (((if 0 < nameN r then nameN r else specN r) + 1 : Nat) : Int) by rw [wrap_i64 (by omega) (by split <;> omega)]; omega]
    by_cases h0 : 0 < nameN r
    · rw [if_pos h0] at h5 ⊢
      exact put (.mk 1 false [] (r.take (nameN r)) [] []) (nameN r + 1) rfl rfl (by simp only [Pt.wt, wtL, List.length_nil, List.length_take]; omega) (by omega) (by rw [hd0, if_pos h0]; rfl)
    · rw [if_neg h0] at h5 ⊢
      have h6 : specN r = 1 := by omega
      rw [h6]
      exact put (.mk 1 false [] (r.take 1) [] []) 2 rfl rfl (by simp only [Pt.wt, wtL, List.length_nil, List.length_take]; omega) (by omega) (by rw [hd0, if_neg h0, if_pos (by omega)]; rfl)
  · have h5 : r.take (if 0 < nameN r then nameN r else specN r) = [] := nf h5
    rw [take_nil (by split <;> omega)] at h5
    have h6 : ¬ 0 < nameN r := fun e => by rw [if_pos e] at h5; omega
    rw [if_neg h6] at h5
    exact put (.mk 0 false [36] [] [] []) 1 rfl rfl (by simp only [Pt.wt, wtL, List.length_nil, List.length_cons]; omega) (by omega) (by rw [hd0, if_neg h6, if_neg (by omega)]; rfl)
def OPost (w : World) (g B : Nat) (l : List Pt) (q : Bool) (d : Int) (s : Txt) (x : Rs (List Pt × Nat)) (e : Ending) (w' : World) : Prop := (match x with
  | .ok p => e = .returned (.int .i64 0) ∧ PS w' g B (s.drop p.2) (p.1.foldl addP l) q d
  | .bad k => e = .returned (.int .i64 (k : Int)) ∧ ∃ s' v', PRow w' g s' v' q d) ∧ MP g B w w'
theorem DPost.one {g B : Nat} {l : List Pt} {q : Bool} {d : Int} {s : Txt} {x : Rs (Pt × Nat)} {e : Ending} {w' : World} (h : DPost w g B l q d s x e w') : OPost w g B l q d s (x.and fun y => .ok ([y.1], y.2)) e w' := by
  cases x with
  | ok p => exact h
  | bad k => exact h
def oneQ (q : Bool) (L : Nat) : Txt → Rs (List Pt × Nat) := if q = true then dblOne (wpL L) else outOne (wpL L)
theorem oneQ_takes (q : Bool) (L : Nat) : Takes1 (oneQ q L) := by
  unfold oneQ
  split
  · exact dblOne_takes _
  · exact outOne_takes _
theorem oneQ_bears (q : Bool) (L : Nat) : Bears (oneQ q L) := by
  unfold oneQ
  split
  · exact dblOne_bears (wpL_wt L)
  · exact outOne_bears (wpL_wt L)
theorem oneQ_nz (q : Bool) (L : Nat) (c : UInt8) (r : Txt) : oneQ q L (c :: r) ≠ .bad 0 := by
  unfold oneQ
  split
  · exact dblOne_nz (wpL_nz L) c r
  · exact outOne_nz (wpL_nz L) c r
theorem oneQ_dollar (q : Bool) (L : Nat) (r : Txt) : oneQ q L (36 :: r) = (dollarF (wpL L) q (36 :: r)).and fun y => .ok ([y.1], y.2) := by
  cases q
  · simp only [oneQ, outOne, Bool.false_eq_true, if_false, if_true]
  · simp only [oneQ, dblOne, if_true]
theorem loop_step {one : Txt → Rs (List Pt × Nat)} (ht : Takes1 one) (l : List Pt) (c : UInt8) (r : Txt) : loopF one ((c :: r).length + 1) l (c :: r) = (one (c :: r)).and fun x => loopF one (((c :: r).drop x.2).length + 1) (x.1.foldl addP l) ((c :: r).drop x.2) := by
  show (one (c :: r)).and (fun x => loopF one (c :: r).length (x.1.foldl addP l) ((c :: r).drop x.2)) = _
  cases h : one (c :: r) with
  | bad k => rfl
  | ok x =>
    have h2 := ht _ _ h
    simp only [Rs.and]
    refine loopF_more ht _ _ _ _ ?_ (Nat.lt_succ_self _)
    rw [List.length_drop]
    omega
def parLen (g : Nat) (w : World) : Nat := match w.cell? ⟨g, 0, none⟩ with
  | some (.string s) => s.size
  | _ => 0
theorem PRow.len {g : Nat} {s : Txt} {v : Value} {q : Bool} {d : Int} (h : PRow w g s v q d) : parLen g w = s.length := by
  unfold parLen
  rw [h.text]
  rfl
def RunPost (w : World) (g B : Nat) (q : Bool) (d : Int) (L : Nat) (l : List Pt) (s : Txt) (e : Ending) (w' : World) : Prop := (match loopF (oneQ q L) (s.length + 1) l s with
  | .ok l' => e = .returned (.int .i64 0) ∧ PS w' g B [] l' q d
  | .bad k => e = .returned (.int .i64 (k : Int)) ∧ ∃ s' v', PRow w' g s' v' q d) ∧ MP g B w w'
def QuoteS (L : Nat) : Prop := ∀ (w : World) (g B : Nat) (c : UInt8) (r : Txt) (l : List Pt), PS w g B (c :: r) l false (30 - (L : Int)) → g < B → B ≤ w.heap.size → (c = 92 ∨ c = 39 ∨ c = 34) → (c :: r).length < 1000000 → wtL l + 12 * (c :: r).length < 500000000 →
  Calls Tryz.prog fn_word_parser_quote #[.pointer (some ⟨g, 0, none⟩)] w (OPost w g B l false (30 - (L : Int)) (c :: r) (outOne (wpL L) (c :: r)))
theorem escape_has (c : UInt8) : ([36, 96, 34, 92] : Txt).contains c = true ↔ (c = 36 ∨ c = 96 ∨ c = 34 ∨ c = 92) := by simp
theorem escaped_of {L g B : Nat} {c : UInt8} {r : Txt} {l : List Pt} {d : Int} (hs : PS w g B (c :: r) l true d) (hc : c ≠ 36) (hg : g < B) (hB : B ≤ w.heap.size) (hl : (c :: r).length < 1000000) (hw : wtL l + 12 * (c :: r).length < 500000000) :
    Calls Tryz.prog fn_word_parser_escaped #[.pointer (some ⟨g, 0, none⟩)] w (fun e w' => ∃ b : Bool, e = .returned (.bool b) ∧ (b = true → OPost w g B l true d (c :: r) (dblOne (wpL L) (c :: r)) (.returned (.int .i64 0)) w') ∧ (b = false → w' = w ∧ dblOne (wpL L) (c :: r) = .ok ([tx true [c]], 1))) := by
  obtain ⟨v, hr, ho⟩ := hs
  simp only [List.length_cons] at hl hw
  refine word_parser_escaped_calls _ _ _ ?_
  have no : ¬ (c = 92 ∧ (r.head? = some 36 ∨ r.head? = some 96 ∨ r.head? = some 34 ∨ r.head? = some 92)) → (∃ b : Bool, Ending.returned (.bool false) = .returned (.bool b) ∧ (b = true → OPost w g B l true d (c :: r) (dblOne (wpL L) (c :: r)) (.returned (.int .i64 0)) w) ∧ (b = false → w = w ∧ dblOne (wpL L) (c :: r) = .ok ([tx true [c]], 1))) := by
    intro h
    refine ⟨false, rfl, fun e => (by cases e), fun _ => ⟨rfl, ?_⟩⟩
    simp only [dblOne]
    rw [if_neg hc, if_neg h]
  refine ⟨_, hr.text, bsel_of (fun h => ?_) (fun h => ⟨_, hr.text, by decide, c, rfl, bsel_of (fun h2 => ?_) (fun h2 => ?_)⟩)⟩
  · have h := of_decide_eq_true h
    simp only [List.length_cons] at h
    have : r = [] := List.eq_nil_of_length_eq_zero (by omega)
    subst this
    exact no fun e => by rcases e.2 with e | e | e | e <;> cases e
  · have h2 : ¬ c = 92 := fun e => nt h2 (byte_eq.2 e)
    exact no fun e => h2 e.1
  · have h2 : c = 92 := byte_eq.1 (nf h2)
    subst h2
    have h := of_decide_eq_false h
    simp only [List.length_cons] at h
    obtain ⟨b, y, rfl⟩ : ∃ b y, r = b :: y := by
      cases r with
      | nil => simp at h
      | cons b y => exact ⟨b, y, rfl⟩
    refine ⟨_, hr.text, by decide, b, rfl, (index_spec _ b).mono ?_⟩
    rintro _ w1 ⟨⟨n, rfl, hn⟩, rfl⟩
    have hd : dblOne (wpL L) (92 :: b :: y) = if (b = 36 ∨ b = 96 ∨ b = 34 ∨ b = 92) then .ok ([tx true [b]], 2) else .ok ([tx true [92]], 1) := by
      simp [dblOne]
    refine .inl ⟨_, rfl, bsel_of (fun h3 => ?_) (fun h3 => ⟨_, hr.text, by decide, by decide, by simp only [List.length_cons]; omega, ?_⟩)⟩
    · have h3 : n < 0 := of_decide_eq_true h3
      have h4 : ¬ ([36, 96, 34, 92] : Txt).contains b = true := by
        rw [← hn, decide_eq_true_eq]
        omega
      rw [escape_has] at h4
      exact no fun e => h4 (by simpa using e.2)
    · have h3 : ¬ n < 0 := of_decide_eq_false h3
      have h4 : ([36, 96, 34, 92] : Txt).contains b = true := by
        rw [← hn, decide_eq_true_eq]
        omega
      rw [escape_has] at h4
      refine (put_spec (x := tx false [b]) (vw := .slice none 0 0) (n := 2) hr ho hg hB (SlAt.nil _ _ _ _) (by simp only [List.length_cons]; omega) (by rw [tx_wt]; simp only [List.length_cons, List.length_nil] at hw ⊢; omega)).mono ?_
      rintro _ w2 ⟨rfl, h2, m2⟩
      refine .inl ⟨rfl, true, rfl, fun _ => ?_, fun e => (by cases e)⟩
      rw [hd, if_pos h4]
      exact ⟨⟨rfl, h2⟩, m2⟩
set_option maxHeartbeats 1000000 in
theorem run_of {L : Nat} (hL : L ≤ 30) (ih : ParseS L) {q : Bool} (hq : q = false → QuoteS L) {g B : Nat} {s : Txt} {l : List Pt} (hs : PS w g B s l q (30 - (L : Int))) (hg : g < B) (hB : B ≤ w.heap.size) (hl : s.length < 1000000) (hw : wtL l + 12 * s.length < 500000000) :
    Calls Tryz.prog fn_word_parser_run #[.pointer (some ⟨g, 0, none⟩)] w (RunPost w g B q (30 - (L : Int)) L l s) := by
  refine word_parser_run_calls _ _ _ ?_
  refine ⟨fun ex w1 => ((∃ s1 l1, ex = 0 ∧ PS w1 g B s1 l1 q (30 - (L : Int)) ∧ loopF (oneQ q L) (s1.length + 1) l1 s1 = loopF (oneQ q L) (s.length + 1) l s ∧ wtL l1 + 12 * s1.length ≤ wtL l + 12 * s.length ∧ s1.length ≤ s.length) ∨ (∃ (k : Nat) (s' : Txt) (v' : Value), k ≠ 0 ∧ ex = (k : Int) ∧ loopF (oneQ q L) (s.length + 1) l s = .bad k ∧ PRow w1 g s' v' q (30 - (L : Int)))) ∧ MP g B w w1,
    fun ex w1 => if ex = 0 then 1 + parLen g w1 else 0, ⟨.inl ⟨s, l, rfl, hs, rfl, Nat.le_refl _, Nat.le_refl _⟩, Mod.refl _ _⟩, ?_⟩
  rintro ex _ w1 ⟨h1 | ⟨k, s', v', hk, rfl, hT, hr1⟩, m1⟩
  rotate_left
  · refine ⟨_, hr1.text, bsel_of (fun _ => bsel_of (fun h => absurd (of_decide_eq_true h) (by omega)) (fun _ => ?_)) (fun _ => ?_)⟩
    · refine ⟨?_, m1⟩
      rw [hT]
      exact ⟨rfl, _, _, hr1⟩
    · refine ⟨?_, m1⟩
      rw [hT]
      exact ⟨rfl, _, _, hr1⟩
  obtain ⟨s1, l1, rfl, hs1, hT, hw1, hl1⟩ := h1
  have hs1' := hs1
  obtain ⟨v1, hr1, ho1⟩ := hs1
  have hz := m1.size
  refine ⟨_, hr1.text, bsel_of (fun hne => ?_) (fun he => ?_)⟩
  rotate_left
  · have he : s1 = [] := nf he
    subst he
    refine ⟨?_, m1⟩
    rw [← hT]
    exact ⟨rfl, hs1'⟩
  have hne : s1 ≠ [] := nt hne
  obtain ⟨c, r, rfl⟩ := List.exists_cons_of_ne_nil hne
  -- what a taking comes to, for the loop
  have next : ∀ (e : Ending) (w2 : World), OPost w1 g B l1 q (30 - (L : Int)) (c :: r) (oneQ q L (c :: r)) e w2 → ∃ n : Int, e = .returned (.int .i64 n) ∧ (((∃ s1 l1, n = 0 ∧ PS w2 g B s1 l1 q (30 - (L : Int)) ∧ loopF (oneQ q L) (s1.length + 1) l1 s1 = loopF (oneQ q L) (s.length + 1) l s ∧ wtL l1 + 12 * s1.length ≤ wtL l + 12 * s.length ∧ s1.length ≤ s.length) ∨ (∃ (k : Nat) (s' : Txt) (v' : Value), k ≠ 0 ∧ n = (k : Int) ∧ loopF (oneQ q L) (s.length + 1) l s = .bad k ∧ PRow w2 g s' v' q (30 - (L : Int)))) ∧ MP g B w w2) ∧ (if n = 0 then 1 + parLen g w2 else 0) < (if (0 : Int) = 0 then 1 + parLen g w1 else 0) := by
    rintro e w2 ⟨h2, m2⟩
    rw [loop_step (oneQ_takes q L)] at hT
    rw [if_pos rfl, hr1.len]
    cases ho : oneQ q L (c :: r) with
    | ok x =>
      rw [ho] at h2 hT
      obtain ⟨rfl, hs2⟩ := h2
      have ht := oneQ_takes q L _ _ ho
      have hb := oneQ_bears q L _ _ ho
      have hf := wt_fold x.1 l1
      have hdl : ((c :: r).drop x.2).length = (c :: r).length - x.2 := List.length_drop
      refine ⟨0, rfl, ⟨.inl ⟨_, _, rfl, hs2, hT, by omega, by omega⟩, m1.trans m2⟩, ?_⟩
      obtain ⟨v2, hr2, _⟩ := hs2
      rw [if_pos rfl, hr2.len]
      omega
    | bad k =>
      rw [ho] at h2 hT
      obtain ⟨rfl, s', v', hr2⟩ := h2
      have hk : k ≠ 0 := fun e => oneQ_nz q L c r (by rw [ho, e])
      refine ⟨_, rfl, ⟨.inr ⟨k, s', v', hk, rfl, hT.symm, hr2⟩, m1.trans m2⟩, ?_⟩
      rw [if_neg (by omega)]
      omega
  have hlc : (c :: r).length < 1000000 := by omega
  have hwc : wtL l1 + 12 * (c :: r).length < 500000000 := by omega
  refine bsel_of (fun _ => ⟨_, hr1.text, by decide, c, rfl, bsel_of (fun h36 => ?_) (fun h36 => ?_)⟩) (fun h => absurd rfl (of_decide_eq_false h))
  · have h36 : c = 36 := byte_eq.1 (of_decide_eq_true h36)
    subst h36
    refine (dollar_of hL ih hs1' hg (by omega) hlc hwc).mono ?_
    intro e w2 h2
    have := DPost.one h2
    rw [← oneQ_dollar] at this
    obtain ⟨n, he, hi, hm⟩ := next e w2 this
    exact .inl ⟨n, he, hi, hm⟩
  have h36 : ¬ c = 36 := fun e => of_decide_eq_false h36 (byte_eq.2 e)
  -- one byte is put
  have byte : ∀ (w5 : World), w5 = w1 → oneQ q L (c :: r) = .ok ([tx q [c]], 1) → Calls Tryz.prog fn_word_parser_put #[.pointer (some (Addr.mk g 0 none)), (.agg #[(.int .i64 0), (.bool false), (.string (S ((c :: r : Txt).take (Int.toNat (1 : Int))))), (.string (S ([] : List UInt8))), (.string (S ([] : List UInt8))), (.slice none 0 0)]), (.int .i64 (1 : Int))] w5 (fun ed w7 => (ed = .returned (.tuple #[]) ∧ (((∃ s1 l1, (0 : Int) = 0 ∧ PS w7 g B s1 l1 q (30 - (L : Int)) ∧ loopF (oneQ q L) (s1.length + 1) l1 s1 = loopF (oneQ q L) (s.length + 1) l s ∧ wtL l1 + 12 * s1.length ≤ wtL l + 12 * s.length ∧ s1.length ≤ s.length) ∨ (∃ (k : Nat) (s' : Txt) (v' : Value), k ≠ 0 ∧ (0 : Int) = (k : Int) ∧ loopF (oneQ q L) (s.length + 1) l s = .bad k ∧ PRow w7 g s' v' q (30 - (L : Int)))) ∧ MP g B w w7) ∧ (if (0 : Int) = 0 then 1 + parLen g w7 else 0) < (if (0 : Int) = 0 then 1 + parLen g w1 else 0)) ∨ (∃ ch, ed = .panicked ch ∧ RunPost w g B q (30 - (L : Int)) L l s (.panicked ch) w7)) := by
    rintro _ rfl ho
    refine (put_spec (x := tx false [c]) (vw := .slice none 0 0) (n := 1) hr1 ho1 hg (by omega) (SlAt.nil _ _ _ _) (by simp) (by rw [tx_wt]; simp only [List.length_cons, List.length_nil] at hwc ⊢; omega)).mono ?_
    rintro _ w7 ⟨rfl, h7, m7⟩
    have e : setq (tx false [c]) q = tx q [c] := by simp [setq, tx, Pt.k, Pt.q, Pt.t, Pt.n, Pt.o, Pt.w]
    rw [e] at h7
    obtain ⟨n, he, hi, hm⟩ := next (.returned (.int .i64 0)) w7 (by rw [ho]; exact ⟨⟨rfl, h7⟩, m7⟩)
    obtain rfl : n = 0 := by
      injection he with he
      injection he with _ he
      exact he.symm
    exact .inl ⟨rfl, hi, hm⟩
  refine ⟨fun b w4 => (b = true → (((∃ s1 l1, (0 : Int) = 0 ∧ PS w4 g B s1 l1 q (30 - (L : Int)) ∧ loopF (oneQ q L) (s1.length + 1) l1 s1 = loopF (oneQ q L) (s.length + 1) l s ∧ wtL l1 + 12 * s1.length ≤ wtL l + 12 * s.length ∧ s1.length ≤ s.length) ∨ (∃ (k : Nat) (s' : Txt) (v' : Value), k ≠ 0 ∧ (0 : Int) = (k : Int) ∧ loopF (oneQ q L) (s.length + 1) l s = .bad k ∧ PRow w4 g s' v' q (30 - (L : Int)))) ∧ MP g B w w4) ∧ (if (0 : Int) = 0 then 1 + parLen g w4 else 0) < (if (0 : Int) = 0 then 1 + parLen g w1 else 0)) ∧ (b = false → w4 = w1 ∧ (q = true → oneQ q L (c :: r) = .ok ([tx q [c]], 1))), ⟨q, by rw [add_row]; exact hr1.quoted, bsel_of (fun hqt => ?_) (fun hqf => ?_)⟩, ?_⟩
  · subst hqt
    refine (escaped_of (L := L) hs1' h36 hg (by omega) hlc hwc).mono ?_
    rintro _ w3 ⟨b, rfl, hb1, hb2⟩
    refine .inl ⟨b, rfl, fun hb => ?_, fun hb => ?_⟩
    · obtain ⟨n, he, hi, hm⟩ := next _ w3 (show OPost w1 g B l1 true (30 - (L : Int)) (c :: r) (oneQ true L (c :: r)) (.returned (.int .i64 0)) w3 from hb1 hb)
      obtain rfl : n = 0 := by
        injection he with he
        injection he with _ he
        exact he.symm
      exact ⟨hi, hm⟩
    · exact ⟨(hb2 hb).1, fun _ => (hb2 hb).2⟩
  · exact ⟨fun e => (by cases e), fun _ => ⟨rfl, fun e => by rw [hqf] at e; cases e⟩⟩
  rintro b _ w4 ⟨hb1, hb2⟩
  refine bsel_of (fun hb => hb1 hb) (fun hb => ?_)
  obtain ⟨rfl, hq1⟩ := hb2 hb
  refine ⟨q, by rw [add_row]; exact hr1.quoted, bsel_of (fun hqf => ?_) (fun hqt => ?_)⟩
  · have hqf : q = false := by simpa using hqf
    subst hqf
    refine (index_spec _ c).mono ?_
    rintro _ w5 ⟨⟨n, rfl, hn⟩, rfl⟩
    have hc3 : ([92, 39, 34] : Txt).contains c = true ↔ (c = 92 ∨ c = 39 ∨ c = 34) := by simp
    refine .inl ⟨_, rfl, bsel_of (fun h0 => ?_) (fun h0 => ⟨_, hr1.text, by decide, by simp only [List.length_cons]; omega, byte w5 rfl ?_⟩)⟩
    · have h0 : ([92, 39, 34] : Txt).contains c = true := by rw [← hn]; exact h0
      refine (hq rfl w5 g B c r l1 hs1' hg (by omega) (hc3.1 h0) hlc hwc).mono ?_
      intro e w6 h6
      obtain ⟨n, he, hi, hm⟩ := next e w6 h6
      exact .inl ⟨n, he, hi, hm⟩
    · have h0 : ¬ ([92, 39, 34] : Txt).contains c = true := by rw [← hn, h0]; decide
      rw [hc3] at h0
      simp only [oneQ, outOne, Bool.false_eq_true, if_false]
      rw [if_neg h36, if_neg h0]
  · have hqt : q = true := by simpa using hqt
    exact ⟨_, hr1.text, by decide, by simp only [List.length_cons]; omega, byte w4 rfl (hq1 hqt)⟩
theorem fold_take {l' l : List Pt} {k : Nat} (h : k < l'.length) : (l'.take (k + 1)).foldl addP l = addP ((l'.take k).foldl addP l) l'[k] := by
  rw [take_one h, List.foldl_append]
  rfl
set_option maxHeartbeats 1000000 in
theorem quote_of {L : Nat} (hL : L ≤ 30) (ih : ParseS L) : QuoteS L := by
  intro w g B c r l hs hg hB hc hl hw
  have hs' := hs
  obtain ⟨v, hr, ho⟩ := hs
  refine word_parser_quote_calls _ _ _ ?_
  refine ⟨_, hr.text, (Unit_spec _ hl).mono ?_⟩
  rintro _ w1 ⟨rfl, s1⟩
  have hr1 : PRow w1 g _ v false _ := hr.still s1
  have ho1 := ho.still s1
  have z1 := s1.size
  simp only [List.length_cons] at hl hw
  have hc36 : ¬ c = 36 := by rcases hc with rfl | rfl | rfl <;> decide
  have hout : outOne (wpL L) (c :: r) = (match unitD 30 (c :: r) with
      | none => .bad 90
      | some t =>
        if c = 92 then .ok ([tx true (r.take 1)], 2)
        else if c = 34 then (dblF (wpL L) (r.take (r.length - t.length - 1))).and fun l => .ok (l, r.length + 1 - t.length)
        else .ok ([tx true (r.take (r.length - t.length - 1))], r.length + 1 - t.length)) := by
    simp only [outOne]
    rw [if_neg hc36, if_pos hc]
    cases unitD 30 (c :: r) <;> rfl
  rw [hout]
  refine .inl ⟨_, rfl, ?_⟩
  cases hu : unitD 30 (c :: r) with
  | none =>
    have h0 : unitN (c :: r) = 0 := by unfold unitN; rw [hu]
    rw [h0]
    exact bsel_of (fun _ => ⟨⟨rfl, _, _, hr1⟩, s1.mp⟩) (fun h => absurd (of_decide_eq_false h) (by decide))
  | some t =>
    obtain ⟨h1, h2, h3⟩ := unitN_pos hu
    simp only [List.length_cons] at h1 h3
    have h92 : c = 92 → ∃ b, r = b :: t := by
      rintro rfl
      cases r with
      | nil => cases hu
      | cons b y =>
        have : some y = some t := hu
        injection this with this
        exact ⟨b, by rw [this]⟩
    have h5 : 2 ≤ unitN (c :: r) := by
      rcases Decidable.em (c = 92) with e | e
      · obtain ⟨b, rfl⟩ := h92 e
        simp only [List.length_cons] at h1
        omega
      · have := quote_len (hc.resolve_left e) hu
        omega
    generalize hn : unitN (c :: r) = n at h1 h2 h3 h5
    dsimp only
    have emx : (if IntKind.i64.wrap ((n : Int) - 1) > 1 then IntKind.i64.wrap ((n : Int) - 1) else 1) = ((n - 1 : Nat) : Int) := by
      rw [wrap_i64 (by omega) (by omega)]
      split <;> omega
    rw [emx]
    have hin : (((c :: r : Txt).drop (Int.toNat 1)).take (Int.toNat ((n - 1 : Nat) : Int) - Int.toNat 1)) = r.take (r.length - t.length - 1) := by
      rw [Int.toNat_natCast]
      show r.take (n - 1 - 1) = _
      congr 1
      omega
    have e2 : r.length + 1 - t.length = n := by omega
    rw [e2]
    have put : ∀ (tt : Txt) (w6 : World), w6 = w1 → tt.length ≤ r.length → Calls Tryz.prog fn_word_parser_put #[.pointer (some ⟨g, 0, none⟩), pagg (tx true tt) (.slice none 0 0), .int .i64 (n : Int)] w6 (fun ed w7 => (ed = .returned (.tuple #[]) ∧ OPost w g B l false (30 - (L : Int)) (c :: r) (.ok ([tx true tt], n)) (.returned (.int .i64 0)) w7) ∨ (∃ ch, ed = .panicked ch ∧ OPost w g B l false (30 - (L : Int)) (c :: r) (.ok ([tx true tt], n)) (.panicked ch) w7)) := by
      rintro tt _ rfl htt
      refine (put_spec (x := tx true tt) (n := n) hr1 ho1 hg (by omega) (SlAt.nil _ _ _ _) (by simp only [List.length_cons]; omega) (by rw [tx_wt]; omega)).mono ?_
      rintro _ w7 ⟨rfl, h7, m7⟩
      exact .inl ⟨rfl, ⟨rfl, h7⟩, s1.mp.trans m7⟩
    refine bsel_of (fun h => absurd (of_decide_eq_true h) (by omega)) (fun _ => ⟨c :: r, hr1.text, by decide, by omega, by simp only [List.length_cons]; omega, ?_⟩)
    rw [hin]
    refine ⟨_, hr1.text, by decide, c, rfl, bsel_of (fun h => ?_) (fun h => bsel_of (fun h34 => ?_) (fun h34 => ?_))⟩
    · have h : c = 92 := byte_eq.1 (of_decide_eq_true h)
      obtain ⟨b, rfl⟩ := h92 h
      rw [if_pos h]
      simp only [List.length_cons] at h1
      have hn2 : n = 2 := by omega
      rw [hn2] at put ⊢
      exact ⟨_, hr1.text, by decide, by decide, by simp only [List.length_cons]; omega, put [b] w1 rfl (by simp)⟩
    · have h : ¬ c = 92 := fun e => of_decide_eq_false h (byte_eq.2 e)
      have h34 : c = 34 := byte_eq.1 (of_decide_eq_true h34)
      rw [if_neg h, if_pos h34]
      refine ⟨_, by rw [add_row]; exact hr1.depth, allocK fun w3 r3 s3 z3 => ?_⟩
      generalize hinn : r.take (r.length - t.length - 1) = inner
      have hil : inner.length ≤ r.length - 1 - t.length := by rw [← hinn, List.length_take]; omega
      rw [hinn] at r3
      have hy : PS w3 w1.heap.size (w1.heap.size + 1) inner [] true (30 - (L : Int)) := ⟨_, r3, OutAt.nil _ _⟩
      refine (run_of hL ih (q := true) (fun e => by cases e) hy (by omega) (by omega) (by omega) (by simp only [wtL]; omega)).mono ?_
      rintro e4 w4 ⟨h4, m4⟩
      have s34 : Still w1 w4 := Mod.trans s3 m4 (fun _ h => h) fun k hk e => by omega
      have hr4 : PRow w4 g _ v false _ := hr1.still s34
      have ho4 := ho1.still s34
      have hloop : loopF (oneQ true L) (inner.length + 1) [] inner = loopF (dblOne (wpL L)) (inner.length + 1) [] inner := rfl
      rw [hloop] at h4
      cases hlp : loopF (dblOne (wpL L)) (inner.length + 1) [] inner with
      | bad k =>
        rw [hlp] at h4
        obtain ⟨rfl, _⟩ := h4
        have hk : k ≠ 0 := fun e => loopF_nz (dblOne_takes _) (dblOne_nz (wpL_nz L)) _ _ _ (Nat.lt_succ_self _) (by rw [hlp, e])
        have hd : dblF (wpL L) inner = .bad k := by
          unfold dblF
          rw [if_neg, hlp]
          rintro rfl
          cases hlp
        rw [hd]
        refine .inl ⟨_, rfl, bsel_of (fun _ => ⟨⟨rfl, _, _, hr4⟩, (s1.trans s34).mp⟩) (fun hh => absurd (nf hh) (by omega))⟩
      | ok l0 =>
        rw [hlp] at h4
        obtain ⟨rfl, hy4⟩ := h4
        refine .inl ⟨_, rfl, bsel_of (fun hh => absurd rfl (nt hh)) (fun _ => ?_)⟩
        obtain ⟨l2, hd, hl2⟩ : ∃ l2, dblF (wpL L) inner = .ok l2 ∧ wtL l2 ≤ 12 * inner.length + 8 := by
          cases hd : dblF (wpL L) inner with
          | ok l2 => exact ⟨l2, rfl, dblF_wt (wpL_wt L) hd⟩
          | bad k =>
            exfalso
            unfold dblF at hd
            split at hd
            · cases hd
            · rw [hlp] at hd; cases hd
        rw [hd]
        -- the parts within
        refine ⟨fun w6 => (∃ v6, PRow w6 w1.heap.size [] v6 true (30 - (L : Int)) ∧ OutAt w6 (w1.heap.size + 1) l2 v6) ∧ Still w1 w6, bsel_of (fun h6 => ?_) (fun h6 => ?_), ?_⟩
        · have h6 : inner = [] := of_decide_eq_true h6
          subst h6
          obtain rfl : l0 = [] := by injection hlp with hlp; exact hlp.symm
          obtain rfl : l2 = [tx true []] := by injection hd with hd; exact hd.symm
          obtain ⟨v4, hr5, ho5⟩ := hy4
          have z4 : w1.heap.size < w4.heap.size := hr5.lt
          refine (put_spec (x := .mk 0 false [] [] [] []) (vw := .slice none 0 0) (n := 0) hr5 ho5 (by omega) (by omega) (SlAt.nil _ _ _ _) (by simp) (by simp [wtL, Pt.wt])).mono ?_
          rintro _ w5 ⟨rfl, h5, m5⟩
          refine .inl ⟨rfl, h5, Mod.trans s34 m5 (fun _ h => h) fun k hk e => by omega⟩
        · have h6 : ¬ inner = [] := of_decide_eq_false h6
          have : l2 = l0 := by
            unfold dblF at hd
            rw [if_neg h6, hlp] at hd
            injection hd with hd
            exact hd.symm
          subst this
          exact ⟨hy4, s34⟩
        rintro _ w6 ⟨⟨v6, hr6y, ho6y⟩, s6⟩
        obtain ⟨p6, c6, xs6, rfl, hown6, hcs6⟩ := ho6y
        have ho6y : OutAt w6 (w1.heap.size + 1) l2 (.slice p6 l2.length c6) := ⟨p6, c6, xs6, rfl, hown6, hcs6⟩
        have hsl6 := ho6y.sl
        have z6 : w1.heap.size < w6.heap.size := hr6y.lt
        have hl2n := wtL_len l2
        refine ⟨p6, l2.length, c6, hr6y.lget rfl, fun x1 w7 => ∃ k : Nat, x1 = (k : Int) ∧ k ≤ l2.length ∧ (∃ v7, PRow w7 g (c :: r) v7 false (30 - (L : Int)) ∧ OutAt w7 B ((l2.take k).foldl addP l) v7 ∧ ∀ j, v7.ownBlock = some j → j < w1.heap.size ∨ w6.heap.size ≤ j) ∧ SlAt w7 (fun j => w1.heap.size + 1 ≤ j ∧ j < w6.heap.size) l2 (.slice p6 l2.length c6) ∧ MP g B w1 w7 ∧ w6.heap.size ≤ w7.heap.size, fun x1 _ => l2.length - x1.toNat, ⟨0, rfl, Nat.zero_le _, ⟨v, hr1.still s6, ho1.still s6, fun j hj => .inl (ho1.ownLt hj).2⟩, hsl6, s6.mp, Nat.le_refl _⟩, ?_⟩
        rintro _ _ w7 ⟨k, rfl, hk, ⟨v7, hr7, ho7, own7⟩, hsl7, m7, z7⟩
        refine bsel_of (fun hx => ?_) (fun hx => ?_)
        rotate_left
        · have hx : k = l2.length := by have := of_decide_eq_false hx; omega
          rw [hx, List.take_length] at ho7
          refine ⟨_, hr7.text, by omega, by simp only [List.length_cons]; omega, ?_⟩
          rw [Int.toNat_natCast]
          refine stK hr7 (by simp) (by simp [Value.oneCell']) fun w12 r12 m12 z12 => ⟨⟨rfl, v7, r12, ho7.mod m12 fun j hj _ e => by omega⟩, (s1.mp.trans m7).trans (m12.weaken fun j hj => .inl hj)⟩
        have hx : k < l2.length := by have := of_decide_eq_true hx; omega
        obtain ⟨b, wp, wc, rfl, c0, c1, c2, c3, c4, c5, hsw⟩ := hsl7.fields hx
        rw [Int.toNat_natCast]
        refine ⟨by omega, by omega, _, _, _, _, _, _, _, _, c0, c1, c2, c3, c4, c5, boxK rfl one6 fun w9 r9 s9 z9 => ?_⟩
        have sd : Still w7 w9.drew := s9.toDrew
        have rd := r9.still (drew_still w9)
        have hr9 : PRow w9.drew g (c :: r) v7 false (30 - (L : Int)) := hr7.still sd
        have ho9 := ho7.still sd
        have zd := sd.size
        obtain ⟨p9, c9, xs9, rfl, hown9, hcs9⟩ := ho9
        have ho9 : OutAt w9.drew B ((l2.take k).foldl addP l) (.slice p9 ((l2.take k).foldl addP l).length c9) := ⟨p9, c9, xs9, rfl, hown9, hcs9⟩
        have hwf := wt_fold (l2.take k) l
        have hwt := wt_take hx
        refine ⟨fun wq => wq = w9.drew, rfl, p9, ((l2.take k).foldl addP l).length, c9, fun wq hq => by subst hq; rw [add_row]; exact hr9.lget rfl, _, _, _, _, _, _, _, _, fun wq hq => by subst hq; exact rd.lget rfl, fun wq hq => by subst hq; exact rd.lget rfl, fun wq hq => by subst hq; exact rd.lget rfl, fun wq hq => by subst hq; exact rd.lget rfl, fun wq hq => by subst hq; exact rd.lget rfl, fun wq hq => by subst hq; exact rd.lget rfl, ?_⟩
        refine (add_spec (x := l2[k]) ho9 (by omega) ((hsw.still sd).mono fun j hj => ⟨by omega, by omega, fun e => by rcases own7 j e with e | e <;> omega⟩) (by omega)).mono ?_
        rintro _ w10 ⟨v10, rfl, ho10, m10, own10⟩
        obtain ⟨p10, c10, xs10, rfl, hown10, hcs10⟩ := ho10
        have ho10 : OutAt w10 B (addP ((l2.take k).foldl addP l) l2[k]) (.slice p10 (addP ((l2.take k).foldl addP l) l2[k]).length c10) := ⟨p10, c10, xs10, rfl, hown10, hcs10⟩
        have hr10 : PRow w10 g (c :: r) (.slice p9 ((l2.take k).foldl addP l).length c9) false (30 - (L : Int)) := hr9.mod m10 fun e => by have := (ho9.ownLt e).1; omega
        refine .inl ⟨_, _, _, rfl, ?_⟩
        show stCells ((Addr.mk g 0 none).add 1) _ _ _ _
        rw [add_row]
        refine stK hr10 (by simp) (by simp [Value.oneCell']) fun w11 r11 m11 z11 => ?_
        rw [show IntKind.i64.wrap ((k : Int) + 1) = ((k + 1 : Nat) : Int) by rw [wrap_i64 (by omega) (by omega)]; omega]
        have z10 := m10.size
        refine ⟨⟨k + 1, rfl, hx, ⟨_, r11, ?_, fun j hj => ?_⟩, ?_, ?_, ?_⟩, by dsimp only; omega⟩
        · rw [fold_take hx]
          exact ho10.mod m11 fun j hj _ e => by omega
        · rcases own10 j hj with e | e
          · exact own7 j e
          · right; omega
        · refine ((hsl7.still sd).mod m10 fun j hj e => ?_).mod m11 fun j hj e => ?_
          · rcases own7 j e with e | e <;> omega
          · omega
        · exact ((m7.still sd).trans (m10.weaken fun j hj => .inr (ho9.ownLt hj).1)).trans (m11.weaken fun j hj => .inl hj)
        · omega
    · have h : ¬ c = 92 := fun e => of_decide_eq_false h (byte_eq.2 e)
      have h34 : ¬ c = 34 := fun e => of_decide_eq_false h34 (byte_eq.2 e)
      rw [if_neg h, if_neg h34]
      exact put _ w1 rfl (by rw [List.length_take]; omega)
theorem parse_lv : ∀ L, L ≤ 31 → ParseS L
  | 0, _ => by
    intro w s hs
    refine word_parse_calls _ _ _ _ ?_
    exact bsel_of (fun _ => ⟨rfl, Still.refl _⟩) (fun h => absurd (of_decide_eq_false h) (by decide))
  | L + 1, hL => by
    intro w s hs
    have ih := parse_lv L (by omega)
    have e1 : (31 : Int) - ((L + 1 : Nat) : Int) = 30 - (L : Int) := by omega
    rw [e1]
    refine word_parse_calls _ _ _ _ ?_
    refine bsel_of (fun h => absurd (of_decide_eq_true h) (by omega)) (fun _ => allocK fun w1 r1 s1 z1 => ?_)
    have hp : PS w1 w.heap.size (w.heap.size + 1) s [] false (30 - (L : Int)) := ⟨_, r1, OutAt.nil _ _⟩
    refine (run_of (by omega) ih (q := false) (fun _ => quote_of (by omega) ih) hp (by omega) (by omega) hs (by simp only [wtL]; omega)).mono ?_
    rintro e2 w2 ⟨h2, m2⟩
    have s2 : Still w w2 := Mod.trans s1 m2 (fun _ h => h) fun k hk e => by omega
    have hlp : loopF (oneQ false L) (s.length + 1) [] s = wpL (L + 1) s := rfl
    rw [hlp] at h2
    unfold PPost
    cases hw : wpL (L + 1) s with
    | bad k =>
      rw [hw] at h2
      obtain ⟨rfl, _⟩ := h2
      have hk : k ≠ 0 := fun e => wpL_nz (L + 1) s (by rw [hw, e])
      exact .inl ⟨_, rfl, bsel_of (fun _ => ⟨rfl, s2⟩) (fun hh => absurd (nf hh) (by omega))⟩
    | ok l =>
      rw [hw] at h2
      obtain ⟨rfl, v, hr2, ho2⟩ := h2
      obtain ⟨p, c, xs, rfl, hown, hcs⟩ := ho2
      have ho2 : OutAt w2 (w.heap.size + 1) l (.slice p l.length c) := ⟨p, c, xs, rfl, hown, hcs⟩
      exact .inl ⟨_, rfl, bsel_of (fun hh => absurd rfl (nt hh)) (fun _ => ⟨_, _, _, hr2.lget rfl, ⟨_, rfl, ho2.sl.mono fun k hk => ⟨by omega, hk.2⟩⟩, s2⟩)⟩
theorem Parse_spec (s : Txt) (hs : s.length < 1000000) : Calls Tryz.prog fn_word_Parse #[.string (S s)] w (PPost w s 30) := by
  refine word_Parse_calls _ _ _ ?_
  refine (parse_lv 30 (by decide) w s hs).mono ?_
  rintro e w1 h
  unfold PPost at h ⊢
  obtain ⟨h, s1⟩ := h
  cases hw : wpL 30 s with
  | bad k =>
    rw [hw] at h
    exact .inl ⟨_, _, _, _, h, rfl, s1⟩
  | ok l =>
    rw [hw] at h
    obtain ⟨v, rfl, hsl⟩ := h
    obtain ⟨p, c, rfl⟩ := hsl.form
    exact .inl ⟨_, _, _, _, rfl, ⟨_, rfl, hsl⟩, s1⟩
end Go.Proofs.YtcoeiiihmpnagaaGreatDoor
namespace Go.Proofs.YtcoeiiihmpnagaaGreatDoor
theorem toks_small : ∀ (n : Nat) (s : Txt), s.length ≤ n → ∀ l, toks s = some l → l.length ≤ s.length ∧ ∀ x ∈ l, x.2.length ≤ s.length ∧ x.2 ≠ [] ∧ x.1 < 3
  | _, [], _, l, h => by
    rw [toks_nil] at h
    obtain rfl := Option.some.inj h
    exact ⟨Nat.le_refl _, fun x hx => by cases hx⟩
  | 0, a :: r, hn, _, _ => by simp only [List.length_cons] at hn; omega
  | n + 1, a :: r, hn, l, h => by
    rw [toks_cons] at h
    cases h1 : tokOne a r with
    | none => rw [h1] at h; cases h
    | some y =>
      obtain ⟨l1, t⟩ := y
      rw [h1] at h
      simp only [Option.bind] at h
      cases h2 : toks t with
      | none => rw [h2] at h; cases h
      | some m =>
        rw [h2] at h
        obtain rfl := Option.some.inj h
        have hlen := tokOne_length h1
        simp only [List.length_cons] at hn ⊢
        obtain ⟨i1, i2⟩ := toks_small n t (by omega) m h2
        refine ⟨by rw [List.length_append]; omega, fun x hx => ?_⟩
        rcases List.mem_append.1 hx with hx | hx
        · rcases tokOne_view h1 with ⟨_, rfl, rfl⟩ | ⟨_, rfl, rfl⟩ | ⟨_, rfl, rfl⟩ | ⟨_, _, rfl, rfl⟩ | ⟨_, _, p, hp, hpt, _, rfl⟩
          · cases hx
          · cases hx
          · obtain rfl := List.mem_singleton.1 hx
            exact ⟨by simp, by simp, by show 2 < 3; decide⟩
          · obtain rfl := List.mem_singleton.1 hx
            have ho := opLen_le (a := a) (r := r)
            simp only [List.length_cons] at ho
            refine ⟨?_, fun e => ?_, by show 1 < 3; decide⟩
            · rw [List.length_take, List.length_cons]
              omega
            · have := congrArg List.length e
              rw [List.length_take, List.length_cons] at this
              simp only [List.length_nil] at this
              omega
          · obtain rfl := List.mem_singleton.1 hx
            refine ⟨?_, hp, by show 0 < 3; decide⟩
            have := congrArg List.length hpt
            simp only [List.length_cons, List.length_append] at this
            show p.length ≤ _
            omega
        · obtain ⟨j1, j2, j3⟩ := i2 x hx
          exact ⟨by omega, j2, j3⟩
theorem tokRes_tb (s : Txt) : TB (tokRes s).1 := by
  unfold tokRes
  split
  · exact ⟨by simp, fun x hx => by cases hx⟩
  · split
    · rename_i h20 _ l hl
      obtain ⟨h1, h2⟩ := toks_small _ s (Nat.le_refl _) l hl
      refine ⟨by show l.length ≤ _; omega, fun x hx => ?_⟩
      obtain ⟨j1, j2, j3⟩ := h2 x hx
      exact ⟨by omega, j2, by omega⟩
    · exact ⟨by simp, fun x hx => by cases hx⟩
def nd0 : Nd := .mk 0 false [] [] [] [] [] []
def parseR (s : Txt) : Nd × Int := if (tokRes s).2 = 0 then match scriptF (tokRes s).1 with
  | .ok x => (x, 0)
  | .bad k => (nd0, (k : Int))
  else (nd0, (tokRes s).2)
end Go.Proofs.YtcoeiiihmpnagaaGreatDoor
