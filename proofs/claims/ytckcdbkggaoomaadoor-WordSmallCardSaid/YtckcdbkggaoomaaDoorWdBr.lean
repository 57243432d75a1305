/- The program's parser of words: a parameter in braces. Conditions: texts of fewer than a million bytes; words are parsed one level deeper as wpL says. -/
import Derived.Test.YtckcdbkggaoomaaDoorWdPut
namespace Go.Proofs.YtckcdbkggaoomaaDoor
open Go.RowKit Vc
variable {w : World}

/-- No error bears the number of none. -/
theorem bracesF_nz {P : Txt → Rs (List Pt)} (hP : ∀ s, P s ≠ .bad 0) (q : Bool) (s : Txt) : bracesF P q s ≠ .bad 0 := by
  unfold bracesF
  split
  · intro h; cases h
  · split
    · intro h; cases h
    · split
      · intro h; cases h
      · split
        · intro h; cases h
        · cases hp : P ((s.drop (paramN s)).drop (opOf (s.drop (paramN s))).length) with
          | bad k =>
            intro h
            injection h with h
            exact hP _ (hp.trans (by rw [h]))
          | ok x =>
            simp only [Rs.and]
            split <;> (intro h; cases h)
theorem dollarF_nz {P : Txt → Rs (List Pt)} (hP : ∀ s, P s ≠ .bad 0) (q : Bool) (s : Txt) : dollarF P q s ≠ .bad 0 := by
  unfold dollarF
  split
  · split
    · intro h; cases h
    · split
      · rename_i t _ _
        cases hb : bracesF P q ((s.drop 2).take (s.length - t.length - 3)) with
        | bad k =>
          intro h
          injection h with h
          exact bracesF_nz hP _ _ (hb.trans (by rw [h]))
        | ok x => intro h; cases h
      · split <;> (intro h; cases h)
  · split
    · intro h; cases h
    · split <;> (intro h; cases h)
theorem loopF_nz {one : Txt → Rs (List Pt × Nat)} (ht : Takes1 one) (ho : ∀ c r, one (c :: r) ≠ .bad 0) : ∀ (n : Nat) (acc : List Pt) (s : Txt), s.length < n → loopF one n acc s ≠ .bad 0
  | 0, _, _, h => by omega
  | n + 1, acc, [], _ => fun h => by cases h
  | n + 1, acc, c :: r, hn => by
    simp only [loopF]
    cases h1 : one (c :: r) with
    | bad k =>
      intro h
      injection h with h
      exact ho c r (h1.trans (by rw [h]))
    | ok x =>
      have h2 := ht _ _ h1
      simp only [List.length_cons] at hn h2
      exact loopF_nz ht ho n _ _ (by rw [List.length_drop, List.length_cons]; omega)
theorem dblOne_nz {P : Txt → Rs (List Pt)} (hP : ∀ s, P s ≠ .bad 0) (c : UInt8) (r : Txt) : dblOne P (c :: r) ≠ .bad 0 := by
  simp only [dblOne]
  split
  · cases hd : dollarF P true (c :: r) with
    | bad k =>
      intro h
      injection h with h
      exact dollarF_nz hP _ _ (hd.trans (by rw [h]))
    | ok x => intro h; cases h
  · split <;> (intro h; cases h)
theorem dblF_nz {P : Txt → Rs (List Pt)} (hP : ∀ s, P s ≠ .bad 0) (s : Txt) : dblF P s ≠ .bad 0 := by
  unfold dblF
  split
  · intro h; cases h
  · exact loopF_nz (dblOne_takes P) (dblOne_nz hP) _ _ _ (Nat.lt_succ_self _)
theorem outOne_nz {P : Txt → Rs (List Pt)} (hP : ∀ s, P s ≠ .bad 0) (c : UInt8) (r : Txt) : outOne P (c :: r) ≠ .bad 0 := by
  simp only [outOne]
  split
  · cases hd : dollarF P false (c :: r) with
    | bad k =>
      intro h
      injection h with h
      exact dollarF_nz hP _ _ (hd.trans (by rw [h]))
    | ok x => intro h; cases h
  · split
    · split
      · intro h; cases h
      · rename_i t _
        split
        · intro h; cases h
        · split
          · cases hd : dblF P (r.take (r.length - t.length - 1)) with
            | bad k =>
              intro h
              injection h with h
              exact dblF_nz hP _ (hd.trans (by rw [h]))
            | ok x => intro h; cases h
          · intro h; cases h
    · intro h; cases h
theorem wpL_nz : ∀ (L : Nat) (s : Txt), wpL L s ≠ .bad 0
  | 0, s => fun h => by cases h
  | L + 1, s => loopF_nz (outOne_takes _) (outOne_nz (wpL_nz L)) _ _ _ (Nat.lt_succ_self _)
theorem takeWhile_twice {p : UInt8 → Bool} : ∀ l : Txt, (l.takeWhile p).takeWhile p = l.takeWhile p
  | [] => rfl
  | a :: l => by
    by_cases h : p a = true
    · rw [List.takeWhile_cons, if_pos h, List.takeWhile_cons, if_pos h, takeWhile_twice l]
    · rw [List.takeWhile_cons, if_neg h]
      rfl
/-- The name of a parameter is that of a variable, or begins as none does. -/
theorem nameN_param (s : Txt) : nameN (s.take (paramN s)) = 0 ∨ nameN (s.take (paramN s)) = (s.take (paramN s)).length := by
  by_cases h : 0 < nameN s
  · right
    have hp : paramN s = nameN s := by unfold paramN; rw [if_pos h]
    rw [hp]
    cases s with
    | nil => rfl
    | cons c r =>
      simp only [nameN] at h ⊢
      split at h
      · rename_i hc
        rw [if_pos hc, List.take_succ_cons]
        simp only [hc, if_true, List.length_cons]
        have e : (r.take (r.takeWhile isNam).length).takeWhile isNam = r.take (r.takeWhile isNam).length := by
          have : r.take (r.takeWhile isNam).length = r.takeWhile isNam := (List.prefix_iff_eq_take.1 (List.takeWhile_prefix _)).symm
          rw [this]
          exact takeWhile_twice _
        rw [e]
      · omega
  · left
    cases s with
    | nil => simp [nameN, paramN]
    | cons c r =>
      simp only [nameN] at h
      cases hk : paramN (c :: r) with
      | zero => rfl
      | succ k =>
        rw [List.take_succ_cons]
        simp only [nameN]
        split
        · rename_i hc
          rw [if_pos hc] at h
          omega
        · rfl

/-- Words are parsed so, with so many levels left. -/
def PPost (w : World) (s : Txt) (L : Nat) (e : Ending) (w' : World) : Prop := (match wpL L s with
  | .ok l => ∃ v, e = .returned (.tuple #[v, .int .i64 0]) ∧ SlAt w' (fun k => w.heap.size ≤ k ∧ k < w'.heap.size) l v
  | .bad k => e = .returned (.tuple #[.slice none 0 0, .int .i64 (k : Int)])) ∧ Still w w'
def ParseS (L : Nat) : Prop := ∀ (w : World) (s : Txt), s.length < 1000000 → Calls Tryd.prog fn_word_parse #[.string (S s), .int .i64 (31 - (L : Int))] w (PPost w s L)

/-- How the function ends. -/
def BrExit (gb : Nat) (ex : Int) (w7 : World) (R : Ending → World → Prop) : Prop :=
  ∃ vKind : Int, ∃ vQuoted : Bool, ∃ vText : List UInt8, ∃ vName : List UInt8, ∃ vOp : List UInt8, ∃ (vWord : Option Addr) (vWordL vWordC : Nat), w7.cell? (Addr.mk gb 0 none) = some (.int .i64 vKind) ∧ w7.cell? (Addr.mk gb 1 none) = some (.bool vQuoted) ∧ w7.cell? (Addr.mk gb 2 none) = some (.string (S vText)) ∧ w7.cell? (Addr.mk gb 3 none) = some (.string (S vName)) ∧ w7.cell? (Addr.mk gb 4 none) = some (.string (S vOp)) ∧ w7.cell? (Addr.mk gb 5 none) = some (.slice vWord vWordL vWordC) ∧ stCells (Addr.mk gb 0 none) (fun (w8 : World) => ∃ vKind1 : Int, ∃ vQuoted1 : Bool, ∃ vText1 : List UInt8, ∃ vName1 : List UInt8, ∃ vOp1 : List UInt8, ∃ (vWord1 : Option Addr) (vWordL1 vWordC1 : Nat), w8.cell? (Addr.mk gb 0 none) = some (.int .i64 vKind1) ∧ w8.cell? (Addr.mk gb 1 none) = some (.bool vQuoted1) ∧ w8.cell? (Addr.mk gb 2 none) = some (.string (S vText1)) ∧ w8.cell? (Addr.mk gb 3 none) = some (.string (S vName1)) ∧ w8.cell? (Addr.mk gb 4 none) = some (.string (S vOp1)) ∧ w8.cell? (Addr.mk gb 5 none) = some (.slice vWord1 vWordL1 vWordC1) ∧ R (.returned (.tuple #[(.agg #[(.int .i64 vKind1), (.bool vQuoted1), (.string (S vText1)), (.string (S vName1)), (.string (S vOp1)), (.slice vWord1 vWordL1 vWordC1)]), (.int .i64 ex)])) w8) 0 [(.int .i64 vKind), (.bool vQuoted), (.string (S vText)), (.string (S vName)), (.string (S vOp)), (.slice vWord vWordL vWordC)] w7
theorem brExit_spec {w7 : World} {gb : Nat} {ex : Int} {x : Pt} {wp : Option Addr} {wc : Nat} {R : Ending → World → Prop} (r : Row w7 gb 39 ⟨pcell x (.slice wp x.w.length wc)⟩) (h : ∀ w', Mod (fun k => k = gb) w7 w' → R (.returned (.tuple #[pagg x (.slice wp x.w.length wc), .int .i64 ex])) w') : BrExit gb ex w7 R :=
  ⟨_, _, _, _, _, _, _, _, r.lget rfl, r.lget rfl, r.lget rfl, r.lget rfl, r.lget rfl, r.lget rfl, stK r (by simp [pcell]) one6 fun w8 r8 m8 _ => ⟨_, _, _, _, _, _, _, _, r8.lget rfl, r8.lget rfl, r8.lget rfl, r8.lget rfl, r8.lget rfl, r8.lget rfl, h w8 m8⟩⟩
def BrPost (w : World) (L : Nat) (q : Bool) (s : Txt) (e : Ending) (w' : World) : Prop := (∃ x vw, SlAt w' (fun k => w.heap.size ≤ k ∧ k < w'.heap.size) x.w vw ∧ x.wt ≤ 12 * s.length + 20 ∧ match bracesF (wpL L) q s with
  | .ok p => e = .returned (.tuple #[pagg x vw, .int .i64 0]) ∧ setq x q = p
  | .bad k => e = .returned (.tuple #[pagg x vw, .int .i64 (k : Int)])) ∧ Still w w'
set_option maxHeartbeats 1000000 in
theorem braces_of {L : Nat} (hL : L ≤ 30) (ih : ParseS L) {g : Nat} {s0 : Txt} {v0 : Value} {q : Bool} (hr : PRow w g s0 v0 q (30 - (L : Int))) (s : Txt) (hs : s.length < 1000000) : Calls Tryd.prog fn_word_parser_braces #[.pointer (some ⟨g, 0, none⟩), .string (S s)] w (BrPost w L q s) := by
  refine word_parser_braces_calls _ _ _ _ ?_
  refine allocK fun w1 r1 s1 z1 => stK r1 (by simp) (by simp [Value.oneCell']) fun w2 r2 m2 z2 => ?_
  have s2 : Still w w2 := s1.box (Nat.le_refl _) m2
  have r2 : Row w2 w.heap.size 39 ⟨pcell (.mk 1 false [] [] [] []) (.slice none 0 0)⟩ := r2
  have hpl := paramN_le s
  -- an end
  have fin : ∀ (x : Pt) (wp : Option Addr) (wc : Nat) (ex : Nat) (w7 : World), Row w7 w.heap.size 39 ⟨pcell x (.slice wp x.w.length wc)⟩ → Still w w7 → SlAt w7 (fun k => w.heap.size < k ∧ k < w7.heap.size) x.w (.slice wp x.w.length wc) → x.wt ≤ 12 * s.length + 20 →
      (match bracesF (wpL L) q s with
        | .ok p => ex = 0 ∧ setq x q = p
        | .bad k => ex = k) → BrExit w.heap.size (ex : Int) w7 (BrPost w L q s) := by
    intro x wp wc ex w7 r7 s7 hsl hwt hm
    refine brExit_spec r7 fun w8 m8 => ⟨⟨x, _, (hsl.mod m8 fun k hk e => by omega).mono fun k hk => ⟨by omega, Nat.lt_of_lt_of_le hk.2 m8.size⟩, hwt, ?_⟩, s7.box (Nat.le_refl _) m8⟩
    cases hb : bracesF (wpL L) q s with
    | ok p =>
      rw [hb] at hm
      obtain ⟨rfl, h⟩ := hm
      exact ⟨rfl, h⟩
    | bad k =>
      rw [hb] at hm
      have hm : ex = k := hm
      rw [hm]
  -- what goes on when it is no length
  refine ⟨fun w9 => ¬ (1 < s.length ∧ s.head? = some 35 ∧ paramN (s.drop 1) = s.length - 1) ∧ Row w9 w.heap.size 39 ⟨pcell (.mk 1 false [] [] [] []) (.slice none 0 0)⟩ ∧ Still w w9, (cutHash_spec s).mono ?_, ?_⟩
  · rintro _ w3 ⟨rfl, rfl⟩
    refine .inl ⟨_, _, rfl, fun b w5 => (b = true ↔ (1 < s.length ∧ s.head? = some 35 ∧ paramN (s.drop 1) = s.length - 1)) ∧ Row w5 w.heap.size 39 ⟨pcell (.mk 1 false [] [] [] []) (.slice none 0 0)⟩ ∧ Still w w5 ∧ (b = true → (if s.head? = some 35 then s.drop 1 else s) = s.drop 1), bsel_of (fun h => ?_) (fun h => ?_), ?_⟩
    · have h : s.head? = some 35 := of_decide_eq_true h
      rw [if_pos h]
      refine bsel_of (fun hne => ?_) (fun hne => ?_)
      · have hne : ¬ s.drop 1 = [] := nt hne
        have hlen : 1 < s.length := by
          rcases Nat.lt_or_ge 1 s.length with h | h
          · exact h
          · exact absurd (List.drop_eq_nil_of_le h) hne
        refine (param_spec (s.drop 1) (by rw [List.length_drop]; omega)).mono ?_
        rintro _ w4 ⟨rfl, s4⟩
        refine .inl ⟨_, rfl, ?_, r2.still s4, s2.trans s4, fun _ => rfl⟩
        rw [decide_eq_true_eq, take_all (paramN_le _), List.length_drop]
        exact ⟨fun e => ⟨hlen, h, e⟩, fun e => e.2.2⟩
      · have hne : s.drop 1 = [] := nf hne
        refine ⟨⟨fun e => (by cases e), fun e => ?_⟩, r2, s2, fun e => (by cases e)⟩
        have := congrArg List.length hne
        rw [List.length_drop, List.length_nil] at this
        omega
    · have h : ¬ s.head? = some 35 := of_decide_eq_false h
      exact ⟨⟨fun e => (by cases e), fun e => absurd e.2.1 h⟩, r2, s2, fun e => (by cases e)⟩
    · rintro b _ w5 ⟨hb, r5, s5, hd⟩
      refine bsel_of (fun h => ?_) (fun h => ?_)
      · have hc := hb.1 h
        rw [hd h]
        refine stK r5 (by simp [pcell]) (by simp [Value.oneCell']) fun w6 r6 m6 z6 => stK r6 (by simp [ovw, pcell]) (by simp [Value.oneCell']) fun w7 r7 m7 z7 => ?_
        have r7 : Row w7 w.heap.size 39 ⟨pcell (.mk 1 false [] (s.drop 1) lenO []) (.slice none 0 0)⟩ := r7
        exact fin _ _ _ 0 w7 r7 ((s5.box (Nat.le_refl _) m6).box (Nat.le_refl _) m7) (SlAt.nil _ _ _ _) (by simp [Pt.wt, wtL]; omega) (by
          have : bracesF (wpL L) q s = .ok (.mk 1 q [] (s.drop 1) lenO []) := by unfold bracesF; rw [if_pos hc]
          rw [this]
          exact ⟨rfl, rfl⟩)
      · exact ⟨fun hc => (by rw [hb.2 hc] at h; cases h), r5, s5⟩
  rintro _ w9 ⟨hno, r9, s9⟩
  refine (param_spec s hs).mono ?_
  rintro _ w10 ⟨rfl, s10⟩
  refine .inl ⟨_, rfl, stK (r9.still s10) (by simp [pcell]) (by simp [Value.oneCell']) fun w11 r11 m11 z11 => ?_⟩
  have r11 : Row w11 w.heap.size 39 ⟨pcell (.mk 1 false [] (s.take (paramN s)) [] []) (.slice none 0 0)⟩ := r11
  have s11 : Still w w11 := (s9.trans s10).box (Nat.le_refl _) m11
  have htl : (s.take (paramN s)).length = paramN s := by rw [List.length_take]; omega
  refine ⟨s.take (paramN s), r11.lget rfl, by omega, by omega, ?_⟩
  rw [htl, Int.toNat_natCast]
  have hop := opOf_len (s.drop (paramN s))
  have hopl : (s.drop (paramN s)).length = s.length - paramN s := List.length_drop
  refine ⟨fun w20 => paramN s ≠ 0 ∧ s.drop (paramN s) ≠ [] ∧ ¬ (opOf (s.drop (paramN s)) = [] ∨ ((opOf (s.drop (paramN s)) = [61] ∨ opOf (s.drop (paramN s)) = [58, 61]) ∧ nameN (s.take (paramN s)) = 0)) ∧ Row w20 w.heap.size 39 ⟨pcell (.mk 1 false [] (s.take (paramN s)) (opOf (s.drop (paramN s))) []) (.slice none 0 0)⟩ ∧ Still w w20, (operator_spec (s.drop (paramN s))).mono ?_, ?_⟩
  · rintro _ w12 ⟨rfl, s12⟩
    refine .inl ⟨_, rfl, stK (r11.still s12) (by simp [pcell]) (by simp [Value.oneCell']) fun w13 r13 m13 z13 => ?_⟩
    have r13 : Row w13 w.heap.size 39 ⟨pcell (.mk 1 false [] (s.take (paramN s)) (opOf (s.drop (paramN s))) []) (.slice none 0 0)⟩ := r13
    have s13 : Still w w13 := (s11.trans s12).box (Nat.le_refl _) m13
    have wtx : (Pt.mk 1 false [] (s.take (paramN s)) (opOf (s.drop (paramN s))) []).wt ≤ 12 * s.length + 20 := by
      simp only [Pt.wt, wtL, List.length_nil]
      omega
    refine ⟨s.take (paramN s), r13.lget rfl, bsel_of (fun h => ?_) (fun h => bsel_of (fun h2 => ?_) (fun h2 => ?_))⟩
    · have h : s.take (paramN s) = [] := of_decide_eq_true h
      rw [take_nil hpl] at h
      refine fin _ _ _ 90 w13 r13 s13 (SlAt.nil _ _ _ _) wtx ?_
      have : bracesF (wpL L) q s = .bad 90 := by unfold bracesF; rw [if_neg hno, if_pos h]
      rw [this]
    · have h : ¬ s.take (paramN s) = [] := of_decide_eq_false h
      rw [take_nil hpl] at h
      have h2 : s.drop (paramN s) = [] := of_decide_eq_true h2
      refine fin _ _ _ 0 w13 r13 s13 (SlAt.nil _ _ _ _) wtx ?_
      have : bracesF (wpL L) q s = .ok (.mk 1 q [] (s.take (paramN s)) [] []) := by unfold bracesF; rw [if_neg hno, if_neg h, if_pos h2]
      rw [this, h2]
      exact ⟨rfl, rfl⟩
    · have h : ¬ s.take (paramN s) = [] := of_decide_eq_false h
      rw [take_nil hpl] at h
      have h2 : ¬ s.drop (paramN s) = [] := of_decide_eq_false h2
      have isn : decide (s.take (paramN s) ≠ [] ∧ nameN (s.take (paramN s)) = (s.take (paramN s)).length) = !decide (nameN (s.take (paramN s)) = 0) := by
        rw [← decide_not]
        apply decide_eq_decide.2
        refine ⟨fun e => ?_, fun e => ⟨fun e2 => e (by rw [e2]; rfl), (nameN_param s).resolve_left e⟩⟩
        rw [e.2, htl]
        exact h
      have j : ∀ w16, Row w16 w.heap.size 39 ⟨pcell (.mk 1 false [] (s.take (paramN s)) (opOf (s.drop (paramN s))) []) (.slice none 0 0)⟩ → Still w w16 → ∀ b : Bool, (b = true ↔ (opOf (s.drop (paramN s)) = [] ∨ ((opOf (s.drop (paramN s)) = [61] ∨ opOf (s.drop (paramN s)) = [58, 61]) ∧ nameN (s.take (paramN s)) = 0))) → (b = true ↔ (opOf (s.drop (paramN s)) = [] ∨ ((opOf (s.drop (paramN s)) = [61] ∨ opOf (s.drop (paramN s)) = [58, 61]) ∧ nameN (s.take (paramN s)) = 0))) ∧ Row w16 w.heap.size 39 ⟨pcell (.mk 1 false [] (s.take (paramN s)) (opOf (s.drop (paramN s))) []) (.slice none 0 0)⟩ ∧ Still w w16 := fun w16 h1 h2 b h3 => ⟨h3, h1, h2⟩
      refine ⟨fun b w18 => (b = true ↔ (opOf (s.drop (paramN s)) = [] ∨ ((opOf (s.drop (paramN s)) = [61] ∨ opOf (s.drop (paramN s)) = [58, 61]) ∧ nameN (s.take (paramN s)) = 0))) ∧ Row w18 w.heap.size 39 ⟨pcell (.mk 1 false [] (s.take (paramN s)) (opOf (s.drop (paramN s))) []) (.slice none 0 0)⟩ ∧ Still w w18, ⟨opOf (s.drop (paramN s)), r13.lget rfl, bsel_of (fun h3 => ?_) (fun h3 => ⟨opOf (s.drop (paramN s)), r13.lget rfl, bsel_of (fun h4 => ⟨s.take (paramN s), r13.lget rfl, ?_⟩) (fun h4 => ⟨opOf (s.drop (paramN s)), r13.lget rfl, bsel_of (fun h5 => ⟨s.take (paramN s), r13.lget rfl, ?_⟩) (fun h5 => ?_)⟩)⟩)⟩, ?_⟩
      · exact j _ r13 s13 _ (by rw [h3]; exact ⟨fun _ => .inl (of_decide_eq_true h3), fun _ => rfl⟩)
      · have h3 := of_decide_eq_false h3
        have h4 := of_decide_eq_true h4
        refine (IsName_spec _ (by omega)).mono ?_
        rintro _ w16 ⟨rfl, s16⟩
        refine .inl ⟨_, rfl, j _ (r13.still s16) (s13.trans s16) _ ?_⟩
        rw [isn, Bool.not_not, decide_eq_true_eq]
        exact ⟨fun e => .inr ⟨.inl h4, e⟩, fun e => (e.resolve_left h3).2⟩
      · have h3 := of_decide_eq_false h3
        have h5 := of_decide_eq_true h5
        refine (IsName_spec _ (by omega)).mono ?_
        rintro _ w16 ⟨rfl, s16⟩
        refine .inl ⟨_, rfl, j _ (r13.still s16) (s13.trans s16) _ ?_⟩
        rw [isn, Bool.not_not, decide_eq_true_eq]
        exact ⟨fun e => .inr ⟨.inr h5, e⟩, fun e => (e.resolve_left h3).2⟩
      · have h3 := of_decide_eq_false h3
        have h4 := of_decide_eq_false h4
        have h5 := of_decide_eq_false h5
        exact j _ r13 s13 _ ⟨fun e => (by cases e), fun e => by rcases (e.resolve_left h3).1 with e | e; exact absurd e h4; exact absurd e h5⟩
      · rintro b _ w18 ⟨hb, r18, s18⟩
        refine bsel_of (fun h6 => ?_) (fun h6 => ⟨h, h2, fun hc => (by rw [hb.2 hc] at h6; cases h6), r18, s18⟩)
        refine fin _ _ _ 90 w18 r18 s18 (SlAt.nil _ _ _ _) wtx ?_
        have : bracesF (wpL L) q s = .bad 90 := by unfold bracesF; rw [if_neg hno, if_neg h, if_neg h2, if_pos (hb.1 h6)]
        rw [this]
  rintro _ w20 ⟨h, h2, h3, r20, s20⟩
  have hbr : bracesF (wpL L) q s = (wpL L ((s.drop (paramN s)).drop (opOf (s.drop (paramN s))).length)).and fun w => if hasL w = true then .bad 90 else .ok (.mk 1 q [] (s.take (paramN s)) (opOf (s.drop (paramN s))) (if q = true then qdL [] w else w)) := by
    unfold bracesF
    rw [if_neg hno, if_neg h, if_neg h2, if_neg h3]
  have sd := s20.toDrew
  have rd := r20.still (drew_still w20)
  have hrd : PRow w20.drew g s0 v0 q (30 - (L : Int)) := hr.still sd
  have zd : w20.drew.heap.size = w20.heap.size := rfl
  have z20 : w.heap.size < w20.heap.size := r20.lt
  refine ⟨fun wq => wq = w20.drew, rfl, opOf (s.drop (paramN s)), fun wq hq => by subst hq; exact rd.lget rfl, by omega, by omega, _, fun wq hq => by subst hq; rw [add_row]; exact hrd.depth, ?_⟩
  rw [Int.toNat_natCast, show IntKind.i64.wrap (30 - (L : Int) + 1) = 31 - (L : Int) by rw [wrap_i64 (by omega) (by omega)]; omega]
  have hinl : ((s.drop (paramN s)).drop (opOf (s.drop (paramN s))).length).length ≤ s.length - (paramN s + (opOf (s.drop (paramN s))).length) := by rw [List.length_drop, List.length_drop]; omega
  refine (ih w20.drew _ (by omega)).mono ?_
  rintro e21 w21 ⟨hp, s21⟩
  -- what the word came to
  have hres : ∃ (r8 : Nat) (l : List Pt) (wp : Option Addr) (wc : Nat), e21 = .returned (.tuple #[.slice wp l.length wc, .int .i64 (r8 : Int)]) ∧ SlAt w21 (fun k => w20.heap.size ≤ k ∧ k < w21.heap.size) l (.slice wp l.length wc) ∧ wtL l ≤ 12 * ((s.drop (paramN s)).drop (opOf (s.drop (paramN s))).length).length ∧ (match wpL L ((s.drop (paramN s)).drop (opOf (s.drop (paramN s))).length) with
      | .ok l' => r8 = 0 ∧ l' = l
      | .bad k => r8 = k ∧ k ≠ 0 ∧ l = []) := by
    cases hw : wpL L ((s.drop (paramN s)).drop (opOf (s.drop (paramN s))).length) with
    | ok l =>
      rw [hw] at hp
      obtain ⟨v, he, hsl⟩ := hp
      obtain ⟨wp, wc, rfl⟩ := hsl.form
      exact ⟨0, l, wp, wc, he, hsl, wpL_wt L _ _ hw, rfl, rfl⟩
    | bad k =>
      rw [hw] at hp
      exact ⟨k, [], none, 0, hp, SlAt.nil _ _ _ _, Nat.zero_le _, rfl, fun e => wpL_nz L _ (by rw [hw, e]), rfl⟩
  obtain ⟨r8, l, wp, wc, rfl, hsl, hwl, hm⟩ := hres
  refine .inl ⟨_, _, _, _, rfl, stK (rd.still s21) (by simp [pcell]) (by simp [Value.oneCell']) fun w22 r22 m22 z22 => ?_⟩
  have r22 : Row w22 w.heap.size 39 ⟨pcell (.mk 1 false [] (s.take (paramN s)) (opOf (s.drop (paramN s))) l) (.slice wp l.length wc)⟩ := r22
  have s22 : Still w w22 := (sd.trans s21).box (Nat.le_refl _) m22
  have hsl22 : SlAt w22 (fun k => w.heap.size < k ∧ k < w22.heap.size) l (.slice wp l.length wc) := (hsl.mod m22 fun k hk e => by omega).mono fun k hk => ⟨by omega, Nat.lt_of_lt_of_le hk.2 m22.size⟩
  have z22 : w.heap.size < w22.heap.size := r22.lt
  -- the number, and the word, in the end
  have endQ : ∀ (ex : Nat) (w25 : World), (r8 = 0 → (if hasL l = true then ex = 90 else ex = 0)) → (r8 ≠ 0 → ex = r8) → Row w25 w.heap.size 39 ⟨pcell (.mk 1 false [] (s.take (paramN s)) (opOf (s.drop (paramN s))) l) (.slice wp l.length wc)⟩ → Still w w25 → SlAt w25 (fun k => w.heap.size < k ∧ k < w25.heap.size) l (.slice wp l.length wc) →
      ∃ xJ6 : World → Prop, (someK (some (Addr.mk g 0 none)) fun a1 => ∃ v10 : Bool, w25.cell? (a1.add 2) = some (.bool v10) ∧ bsel v10 (∃ (v11 : Option Addr) (vL1 vC1 : Nat), w25.cell? (Addr.mk w.heap.size 5 none) = some (.slice v11 vL1 vC1) ∧ Calls Tryd.prog fn_word_quoted #[.slice v11 vL1 vC1] w25 (fun ed w26 => (∃ (r10 : Option Addr) (rL1 rC1 : Nat), ed = .returned (.slice r10 rL1 rC1) ∧ stCells (Addr.mk w.heap.size 5 none) (fun w27 => xJ6 w27) 0 [.slice r10 rL1 rC1] w26) ∨ (∃ ch, ed = .panicked ch ∧ BrPost w L q s (.panicked ch) w26))) (xJ6 w25)) ∧ ∀ (us7 : Nat → Value) (w28 : World), xJ6 w28 → BrExit w.heap.size (ex : Int) w28 (BrPost w L q s) := by
    intro ex w25 he0 he1 r25 s25 hsl25
    refine ⟨fun w28 => BrExit w.heap.size (ex : Int) w28 (BrPost w L q s), ⟨q, by rw [add_row]; exact (show PRow w25 g s0 v0 q (30 - (L : Int)) from hr.still s25).quoted, bsel_of (fun hq => ⟨_, _, _, r25.lget rfl, (quoted_spec hsl25 (by omega)).mono ?_⟩) (fun hq => ?_)⟩, fun _ w28 h => h⟩
    · rintro _ w26 ⟨v26, rfl, hq26, s26⟩
      obtain ⟨qp, qc, rfl⟩ := hq26.form
      refine .inl ⟨_, _, _, rfl, stK (r25.still s26) (by simp [pcell]) (by simp [Value.oneCell']) fun w27 r27 m27 z27 => ?_⟩
      have r27 : Row w27 w.heap.size 39 ⟨pcell (.mk 1 false [] (s.take (paramN s)) (opOf (s.drop (paramN s))) (qdL [] l)) (.slice qp (qdL [] l).length qc)⟩ := r27
      have z25 : w.heap.size < w25.heap.size := r25.lt
      have hwq := wt_qdL l []
      simp only [wtL] at hwq
      refine fin _ _ _ ex w27 r27 ((s25.trans s26).box (Nat.le_refl _) m27) ((hq26.mod m27 fun k hk e => by omega).mono fun k hk => ⟨by omega, Nat.lt_of_lt_of_le hk.2 m27.size⟩) (by simp only [Pt.wt, List.length_nil]; omega) ?_
      rw [hbr]
      cases hw : wpL L ((s.drop (paramN s)).drop (opOf (s.drop (paramN s))).length) with
      | bad k =>
        rw [hw] at hm
        obtain ⟨h8, hk, _⟩ := hm
        exact (he1 (by omega)).trans h8
      | ok l' =>
        rw [hw] at hm
        obtain ⟨h8, rfl⟩ := hm
        have := he0 h8
        simp only [Rs.and]
        by_cases hh : hasL l' = true
        · rw [if_pos hh] at this ⊢
          exact this
        · rw [if_neg hh] at this ⊢
          rw [if_pos hq]
          exact ⟨this, by rw [hq]; rfl⟩
    · refine fin _ _ _ ex w25 r25 s25 hsl25 (by simp only [Pt.wt, List.length_nil]; omega) ?_
      rw [hbr]
      cases hw : wpL L ((s.drop (paramN s)).drop (opOf (s.drop (paramN s))).length) with
      | bad k =>
        rw [hw] at hm
        obtain ⟨h8, hk, _⟩ := hm
        exact (he1 (by omega)).trans h8
      | ok l' =>
        rw [hw] at hm
        obtain ⟨h8, rfl⟩ := hm
        have := he0 h8
        simp only [Rs.and]
        by_cases hh : hasL l' = true
        · rw [if_pos hh] at this ⊢
          exact this
        · rw [if_neg hh] at this ⊢
          rw [if_neg (by rw [hq]; decide)]
          exact ⟨this, by rw [hq]; rfl⟩
  refine ⟨fun ex w25 => ∃ n : Nat, ex = (n : Int) ∧ (r8 = 0 → (if hasL l = true then n = 90 else n = 0)) ∧ (r8 ≠ 0 → n = r8) ∧ Row w25 w.heap.size 39 ⟨pcell (.mk 1 false [] (s.take (paramN s)) (opOf (s.drop (paramN s))) l) (.slice wp l.length wc)⟩ ∧ Still w w25 ∧ SlAt w25 (fun k => w.heap.size < k ∧ k < w25.heap.size) l (.slice wp l.length wc), ⟨fun b w24 => (b = true ↔ r8 = 0 ∧ hasL l = true) ∧ Row w24 w.heap.size 39 ⟨pcell (.mk 1 false [] (s.take (paramN s)) (opOf (s.drop (paramN s))) l) (.slice wp l.length wc)⟩ ∧ Still w w24 ∧ SlAt w24 (fun k => w.heap.size < k ∧ k < w24.heap.size) l (.slice wp l.length wc), bsel_of (fun h8 => ⟨_, _, _, r22.lget rfl, (has_spec hsl22 (by omega)).mono ?_⟩) (fun h8 => ⟨⟨fun e => (by cases e), fun e => ?_⟩, r22, s22, hsl22⟩), ?_⟩, ?_⟩
  · rintro _ w23 ⟨rfl, s23⟩
    have h8 : (r8 : Int) = 0 := of_decide_eq_true h8
    exact .inl ⟨_, rfl, ⟨fun e => ⟨by omega, e⟩, fun e => e.2⟩, r22.still s23, s22.trans s23, (hsl22.still s23).mono fun k hk => ⟨hk.1, Nat.lt_of_lt_of_le hk.2 s23.size⟩⟩
  · have h8 : ¬ (r8 : Int) = 0 := of_decide_eq_false h8
    exact absurd e.1 (by omega)
  · rintro b _ w24 ⟨hb, r24, s24, hsl24⟩
    refine bsel_of (fun h9 => ?_) (fun h9 => ?_)
    · have := hb.1 h9
      exact ⟨90, rfl, fun _ => by rw [if_pos this.2], fun e => absurd this.1 e, r24, s24, hsl24⟩
    · refine ⟨r8, rfl, fun e => ?_, fun _ => rfl, r24, s24, hsl24⟩
      rw [if_neg fun hh => by rw [hb.2 ⟨e, hh⟩] at h9; cases h9]
      exact e
  · rintro _ _ w25 ⟨n, rfl, he0, he1, r25, s25, hsl25⟩
    exact endQ n w25 he0 he1 r25 s25 hsl25
end Go.Proofs.YtckcdbkggaoomaaDoor
