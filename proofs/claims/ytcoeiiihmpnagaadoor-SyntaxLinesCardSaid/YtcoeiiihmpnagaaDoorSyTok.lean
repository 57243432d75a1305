/- The program's parser of scripts: its tokens. Conditions: as each theorem names them. -/
import Derived.Test.YtcoeiiihmpnagaaDoorNdAt
import Derived.Test.YtcoeiiihmpnagaaDoorM2
import Derived.Test.YtcoeiiihmpnagaaDoorLxToks
import Derived.Test.YtcoeiiihmpnagaaDoorM4
namespace Go.Proofs.YtcoeiiihmpnagaaDoor
open Go.RowKit Vc
variable {w : World}

abbrev errP (k : Nat) : List PanicEntry := [{ v := .iface 33 (.int .i64 (k : Int)), recovered := false }]
/-- The parser stands at g, with so many tokens left. -/
def Pz (w : World) (g : Nat) (s : Ts) : Prop := ∃ a c, Row w g 45 ⟨[.slice a s.length c]⟩ ∧ tkE.At w (fun k => k < g) s (.slice a s.length c)
theorem Pz.lt {g : Nat} {s : Ts} (h : Pz w g s) : g < w.heap.size := by
  obtain ⟨a, c, h, _⟩ := h
  exact h.lt
theorem Pz.mod {S : Nat → Prop} {g : Nat} {s : Ts} {w' : World} (h : Pz w g s) (hm : Mod S w w') (hS : ∀ k, k ≤ g → ¬ S k) : Pz w' g s := by
  obtain ⟨a, c, h1, h2⟩ := h
  exact ⟨a, c, h1.mod hm (hS g (Nat.le_refl _)), h2.mod hm fun k hk => hS k (Nat.le_of_lt hk)⟩
theorem Pz.still {g : Nat} {s : Ts} {w' : World} (h : Pz w g s) (hm : Still w w') : Pz w' g s := h.mod hm fun _ _ h => h
theorem CellsAt.zero {b : Addr} {x : Value} {xs : List Value} (h : CellsAt w b (x :: xs)) : w.cell? b = some x := by
  have a0 : b.add 0 = b := by unfold Addr.add; simp
  have := h 0 x rfl
  rwa [a0] at this
theorem Still.only {g : Nat} {a b : World} (h : Still a b) : Only g a b := h.weaken fun _ h => h.elim
theorem swant_spec (ok : Bool) : Calls Tryd.prog fn_syntax_want #[.bool ok] w (fun e w' => e = (if ok = true then .returned (.tuple #[]) else .panicked (errP 100)) ∧ w' = w) := by
  refine syntax_want_calls _ _ _ ?_
  cases ok with
  | true => exact ⟨rfl, rfl⟩
  | false => exact ⟨rfl, rfl⟩
/-- A call of want. -/
theorem wantK {ok : Bool} {K : World → Prop} {R : Ending → World → Prop} (h1 : ok = true → K w) (h2 : ok = false → R (.panicked (errP 100)) w) : Calls Tryd.prog fn_syntax_want #[.bool ok] w (fun e w' => (e = .returned (.tuple #[]) ∧ K w') ∨ (∃ c, e = .panicked c ∧ R (.panicked c) w')) := by
  refine (swant_spec ok).mono ?_
  rintro _ w1 ⟨rfl, rfl⟩
  cases ok with
  | true => exact .inl ⟨rfl, h1 rfl⟩
  | false => exact .inr ⟨_, rfl, h2 rfl⟩
theorem sfail_spec (k : Nat) : Calls Tryd.prog fn_syntax_fail #[.int .i64 (k : Int)] w (fun e w' => e = (if k = 0 then .returned (.tuple #[]) else .panicked (errP k)) ∧ w' = w) := by
  refine syntax_fail_calls _ _ _ ?_
  refine bsel_of (fun h => ?_) (fun h => ?_)
  · have h : ¬ (k : Int) = 0 := nt h
    rw [if_neg (by omega)]
    exact ⟨rfl, rfl⟩
  · have h : (k : Int) = 0 := nf h
    rw [if_pos (by omega)]
    exact ⟨rfl, rfl⟩
theorem peek_spec {g : Nat} {s : Ts} (h : Pz w g s) (k : Nat) : Calls Tryd.prog fn_syntax_parser_peek #[.pointer (some ⟨g, 0, none⟩), .int .i64 (k : Int)] w (fun e w' => e = .returned (.agg #[.int .i64 ((((s[k]?).getD (2, [])).1 : Nat) : Int), .string (S ((s[k]?).getD (2, [])).2)]) ∧ Still w w') := by
  refine syntax_parser_peek_calls _ _ _ _ ?_
  obtain ⟨a, c, hr, ht⟩ := h
  refine allocK fun w1 r1 s1 z1 => ⟨a, s.length, c, (hr.still s1).lget rfl, bsel_of (fun hx => ?_) (fun hx => ?_)⟩
  · have hx : s.length ≤ k := by have := of_decide_eq_true hx; omega
    rw [List.getElem?_eq_none hx]
    exact stK r1 (by simp) (by simp [Value.oneCell']) fun w2 r2 m2 z2 => ⟨_, _, r2.lget rfl, r2.lget rfl, rfl, s1.box (Nat.le_refl _) m2⟩
  · have hx : k < s.length := by have := of_decide_eq_false hx; omega
    obtain ⟨b, cs, rfl, _, he, hc⟩ := (ht.still s1).get (List.getElem?_eq_getElem hx)
    obtain rfl : cs = [.int .i64 (s[k].1 : Int), .string (S s[k].2)] := he
    rw [List.getElem?_eq_getElem hx, Int.toNat_natCast]
    exact ⟨some b, s.length, c, (hr.still s1).lget rfl, by omega, by omega, _, _, hc.zero, hc 1 _ rfl, stK r1 (by simp) (by simp [Value.oneCell']) fun w2 r2 m2 z2 => ⟨_, _, r2.lget rfl, r2.lget rfl, rfl, s1.box (Nat.le_refl _) m2⟩⟩
theorem next_spec {g : Nat} {x : Nat × Txt} {r : Ts} (h : Pz w g (x :: r)) : Calls Tryd.prog fn_syntax_parser_next #[.pointer (some ⟨g, 0, none⟩)] w (fun e w' => e = .returned (.agg #[.int .i64 (x.1 : Int), .string (S x.2)]) ∧ Only g w w' ∧ Pz w' g r) := by
  refine syntax_parser_next_calls _ _ _ ?_
  have hg := h.lt
  obtain ⟨a, c, hr, ht⟩ := h
  obtain ⟨a, rfl⟩ := ht.ptr
  have hlen := ht.len.2
  refine allocK fun w1 r1 s1 z1 => ⟨_, _, _, (hr.still s1).lget rfl, by decide, by simp only [List.length_cons]; omega, ?_⟩
  obtain ⟨b, cs, hb, _, he, hc⟩ := (ht.still s1).get (i := 0) rfl
  obtain rfl := Option.some.inj hb
  obtain rfl : cs = [.int .i64 (x.1 : Int), .string (S x.2)] := he
  refine ⟨_, _, hc.zero, hc 1 _ rfl, allocK fun w2 r2 s2 z2 => stK r2 (by simp) (by simp [Value.oneCell']) fun w3 r3 m3 z3 => ?_⟩
  have hr3 := ((hr.still s1).still s2).mod m3 (by intro e; omega)
  have r1' := (r1.still s2).mod m3 (by intro e; omega)
  have ht3 := ((ht.still s1).still s2).mod m3 (by intro k hk e; omega)
  refine ⟨_, _, _, hr3.lget rfl, by decide, by simp only [List.length_cons]; omega, ?_⟩
  refine stK hr3 (by simp) (by simp [Value.oneCell']) fun w4 r4 m4 z4 => ⟨_, _, (r3.mod m4 (by intro e; omega)).lget rfl, (r3.mod m4 (by intro e; omega)).lget rfl, ?_⟩
  refine stK (r1'.mod m4 (by intro e; omega)) (by simp) (by simp [Value.oneCell']) fun w5 r5 m5 z5 => ⟨_, _, r5.lget rfl, r5.lget rfl, rfl, ?_, ?_⟩
  · have o3 : Only g w w3 := ((s1.trans s2).box (g := w1.heap.size) (by omega) m3).only
    exact Mod.trans (Mod.trans o3 m4 (fun _ h => h) (fun _ _ h => h)) m5 (fun _ h => h) (fun i hi e => by omega)
  · have ht5 := (ht3.mod m4 (by intro k hk e; omega)).mod m5 (by intro k hk e; omega)
    have r5' := r4.mod m5 (by intro e; omega)
    have ht6 := ht5.tail
    by_cases hc1 : c = 1
    · have hr0 : r = [] := by
        simp only [List.length_cons] at hlen
        exact List.eq_nil_of_length_eq_zero (by omega)
      subst hr0
      have e : (if c = Int.toNat 1 then some a else Option.map (fun x : Addr => x.add (Int.toNat 1 * 2)) (some a)) = some a := if_pos (by rw [hc1]; rfl)
      refine ⟨some a, c - Int.toNat 1, ?_, Enc.At.nil _ _ _ _ _⟩
      rw [e] at r5'
      exact r5'
    · have e : (if c = Int.toNat 1 then some a else Option.map (fun x : Addr => x.add (Int.toNat 1 * 2)) (some a)) = some (a.add 2) := if_neg (fun h => hc1 h)
      refine ⟨some (a.add 2), c - 1, ?_, ?_⟩
      · rw [e] at r5'
        exact r5'
      · exact ht6
theorem contains_spec {p : Option Addr} {n C : Nat} {l : List Txt} (h : StrsAt w p n l) (hn : n < 1000) (x : Txt) : Calls Tryd.prog fn_slices_Contains_string_string #[.slice p n C, .string (S x)] w (fun e w' => e = .returned (.bool (l.contains x)) ∧ Still w w') := by
  refine slices_Contains_string_string_calls _ _ _ _ _ _ ?_
  have hlen := h.1
  have key : Calls Tryd.prog fn_slices_Index_string_string #[.slice p n C, .string (S x)] w (fun e w' => (∃ z : Int, e = .returned (.int .i64 z) ∧ (0 ≤ z ↔ x ∈ l)) ∧ Still w w') := by
    refine slices_Index_string_string_calls _ _ _ _ _ _ ?_
    refine ⟨fun i w1 => ∃ k : Nat, i = (k : Int) ∧ k ≤ n ∧ x ∉ l.take k ∧ w1 = w, fun i _ => n - i.toNat, ⟨0, rfl, Nat.zero_le _, by simp, rfl⟩, ?_⟩
    rintro _ _ w1 ⟨k, rfl, hk, hno, rfl⟩
    refine bsel_of (fun hx => ?_) (fun hx => ?_)
    · have hx : k < n := by have := of_decide_eq_true hx; omega
      have hkl : k < l.length := by omega
      obtain ⟨b, rfl, cb⟩ := h.get hx
      refine ⟨by omega, by omega, l[k], by rw [Int.toNat_natCast, Nat.mul_one]; exact cb, bsel_of (fun he => ?_) (fun he => ?_)⟩
      · have he : x = l[k] := of_decide_eq_true he
        exact ⟨⟨_, rfl, ⟨fun _ => by rw [he]; exact List.getElem_mem hkl, fun _ => by omega⟩⟩, Still.refl _⟩
      · have he : ¬ x = l[k] := of_decide_eq_false he
        have e1 : IntKind.i64.wrap ((k : Int) + 1) = ((k + 1 : Nat) : Int) := by rw [wrap_i64 (by omega) (by omega)]; omega
        rw [e1]
        refine ⟨⟨k + 1, rfl, hx, ?_, rfl⟩, by dsimp only; omega⟩
        rw [take_one hkl]
        simp only [List.mem_append, List.mem_singleton, not_or]
        exact ⟨hno, he⟩
    · have hx : k = n := by have := of_decide_eq_false hx; omega
      rw [hx, ← hlen, List.take_length] at hno
      exact ⟨⟨-1, rfl, ⟨fun h => absurd h (by decide), fun h => absurd h hno⟩⟩, Still.refl _⟩
  refine key.mono ?_
  rintro _ w1 ⟨⟨z, rfl, hz⟩, s1⟩
  refine .inl ⟨_, rfl, ?_, s1⟩
  have : decide (0 ≤ z) = l.contains x := by
    rw [Bool.eq_iff_iff, decide_eq_true_iff, List.contains_iff_mem]
    exact hz
  rw [this]
def atB (k : Nat) (l : List Txt) (s : Ts) : Bool := decide (((s[0]?).getD (2, [])).1 = k) && l.contains ((s[0]?).getD (2, [])).2
theorem at_spec {g : Nat} {s : Ts} (h : Pz w g s) (k : Nat) {q : Option Addr} {n c : Nat} {l : List Txt} (hq : StrsAt w q n l) (hn : n < 1000) : Calls Tryd.prog fn_syntax_parser_at #[.pointer (some ⟨g, 0, none⟩), .int .i64 (k : Int), .slice q n c] w (fun e w' => e = .returned (.bool (atB k l s)) ∧ Still w w') := by
  refine syntax_parser_at_calls _ _ _ _ _ _ _ ?_
  have h1 := peek_spec h 0
  refine h1.mono ?_
  rintro _ w1 ⟨rfl, s1⟩
  unfold atB
  generalize (s[0]?).getD (2, []) = x
  refine .inl ⟨_, _, rfl, allocK fun w2 r2 s2 z2 => stK r2 (by simp) (by simp [Value.oneCell']) fun w3 r3 m3 z3 => ?_⟩
  have s3 : Still w w3 := (s1.trans s2).box s1.size m3
  refine ⟨_, r3.lget rfl, bsel_of (fun hk => ?_) (fun hk => ?_)⟩
  · have hk : x.1 = k := by have := of_decide_eq_true hk; omega
    refine ⟨_, r3.lget rfl, (contains_spec (hq.still s3) hn x.2).mono ?_⟩
    rintro _ w4 ⟨rfl, s4⟩
    refine .inl ⟨_, rfl, ?_, s3.trans s4⟩
    rw [decide_eq_true hk, Bool.true_and]
  · have hk : ¬ x.1 = k := by have := of_decide_eq_false hk; omega
    rw [decide_eq_false hk, Bool.false_and]
    exact ⟨rfl, s3⟩
theorem atB_one {k : Nat} {t : Txt} (ht : t ≠ []) (s : Ts) : atB k [t] s = isT k t s := by
  unfold atB isT
  cases s with
  | nil =>
    have : ([t] : List Txt).contains [] = false := by
      simp only [List.contains_cons, List.contains_nil, Bool.or_false, beq_eq_false_iff_ne]
      exact fun e => ht e.symm
    simp only [List.getElem?_nil, Option.getD_none, this, Bool.and_false, List.head?_nil]
    exact (decide_eq_false (by simp)).symm
  | cons x r =>
    simp only [List.getElem?_cons_zero, Option.getD_some, List.contains_cons, List.contains_nil, Bool.or_false]
    rw [Bool.eq_iff_iff, Bool.and_eq_true, decide_eq_true_iff, decide_eq_true_iff, beq_iff_eq]
    exact ⟨fun h => congrArg some (Prod.ext h.1 h.2), fun h => by rw [Option.some.inj h]; exact ⟨rfl, rfl⟩⟩
theorem atB_cons {k : Nat} {t : Txt} {l : List Txt} (ht : t ≠ []) (s : Ts) : atB k (t :: l) s = (isT k t s || atB k l s) := by
  rw [← atB_one ht]
  unfold atB
  simp only [List.contains_cons, List.contains_nil, Bool.or_false]
  cases decide (((s[0]?).getD (2, [])).1 = k) <;> rfl
theorem take_spec {g : Nat} {s : Ts} (h : Pz w g s) (k : Nat) {t : Txt} (ht : t ≠ []) : Calls Tryd.prog fn_syntax_parser_take #[.pointer (some ⟨g, 0, none⟩), .int .i64 (k : Int), .string (S t)] w (fun e w' => e = .returned (.bool (isT k t s)) ∧ Only g w w' ∧ Pz w' g (if isT k t s = true then s.tail else s)) := by
  refine syntax_parser_take_calls _ _ _ _ _ ?_
  refine allocK fun w1 r1 s1 z1 => (at_spec (h.still s1) k (StrsAt.row (l := [t]) r1) (show 1 < 1000 by decide)).mono ?_
  rintro _ w2 ⟨rfl, s2⟩
  rw [atB_one ht]
  have h2 := (h.still s1).still s2
  refine .inl ⟨_, rfl, bsel_of (fun hx => ?_) (fun hx => ?_)⟩
  · rw [isT_cons hx] at h2
    rw [hx, if_pos rfl]
    refine (next_spec h2).mono ?_
    rintro _ w3 ⟨rfl, o3, h3⟩
    exact .inl ⟨_, _, rfl, rfl, Mod.trans (s1.trans s2) o3 (fun _ h => h.elim) (fun _ _ h => h), h3⟩
  · rw [hx, if_neg (by decide)]
    exact ⟨rfl, (s1.trans s2).only, h2⟩
def pzLen (g : Nat) (w : World) : Nat := match w.cell? ⟨g, 0, none⟩ with
  | some (.slice _ n _) => n
  | _ => 0
theorem Pz.len {g : Nat} {s : Ts} (h : Pz w g s) : pzLen g w = s.length := by
  obtain ⟨a, c, hr, _⟩ := h
  unfold pzLen
  rw [hr.lget rfl]
theorem lines_spec {g : Nat} {s : Ts} (h : Pz w g s) : Calls Tryd.prog fn_syntax_parser_lines #[.pointer (some ⟨g, 0, none⟩)] w (fun e w' => e = .returned (.tuple #[]) ∧ Only g w w' ∧ Pz w' g (linesF s)) := by
  refine syntax_parser_lines_calls _ _ _ ?_
  refine ⟨fun w1 => ∃ s1, Pz w1 g s1 ∧ linesF s1 = linesF s ∧ Only g w w1, pzLen g, ⟨s, h, rfl, Mod.refl _ _⟩, ?_⟩
  rintro _ w1 ⟨s1, h1, e1, o1⟩
  refine (take_spec h1 2 (t := [10]) (by decide)).mono ?_
  rintro _ w2 ⟨rfl, o2, h2⟩
  refine .inl ⟨_, rfl, bsel_of (fun hx => ?_) (fun hx => ?_)⟩
  · rw [hx, if_pos rfl] at h2
    have hl := isT_len hx
    refine ⟨⟨_, h2, ?_, Mod.trans o1 o2 (fun _ h => h) (fun _ _ h => h)⟩, by rw [h2.len, h1.len]; omega⟩
    rw [← e1, isT_cons hx]
    simp only [linesF, List.tail_cons]
    rw [if_pos (show ((2, [10]) : Nat × Txt) = lineT from rfl)]
  · rw [hx, if_neg (by decide)] at h2
    refine ⟨rfl, Mod.trans o1 o2 (fun _ h => h) (fun _ _ h => h), ?_⟩
    have : linesF s1 = s1 := by
      cases s1 with
      | nil => rfl
      | cons x r =>
        simp only [linesF]
        rw [if_neg]
        intro e
        rw [e] at hx
        exact absurd hx (by unfold isT; simp [lineT])
    rw [← e1, this]
    exact h2
theorem closers_spec : Calls Tryd.prog fn_syntax_closers #[] w (fun e w' => ∃ q, e = .returned (.slice q 8 8) ∧ StrsAt w' q 8 closL ∧ Still w w') := by
  refine syntax_closers_calls _ _ ?_
  exact allocK fun w1 r1 s1 z1 => ⟨_, rfl, StrsAt.row (l := closL) r1, s1⟩
theorem ends_spec {g : Nat} {s : Ts} (h : Pz w g s) : Calls Tryd.prog fn_syntax_parser_ends #[.pointer (some ⟨g, 0, none⟩)] w (fun e w' => e = .returned (.bool (endsF s)) ∧ Still w w') := by
  refine syntax_parser_ends_calls _ _ _ ?_
  obtain ⟨a, c, hr, _⟩ := id h
  refine ⟨_, _, _, hr.lget rfl, bsel_of (fun hx => ?_) (fun hx => ?_)⟩
  · have : s = [] := List.eq_nil_of_length_eq_zero (by have := of_decide_eq_true hx; omega)
    subst this
    exact ⟨rfl, Still.refl _⟩
  have hx : s ≠ [] := by
    rintro rfl
    exact of_decide_eq_false hx rfl
  obtain ⟨x, r, rfl⟩ := List.exists_cons_of_ne_nil hx
  refine allocK fun w1 r1 s1 z1 => (at_spec (h.still s1) 1 (StrsAt.row (l := [tShut, tSemi2]) r1) (by decide)).mono ?_
  rintro _ w2 ⟨rfl, s2⟩
  have e1 : atB 1 [tShut, tSemi2] (x :: r) = (decide (x.1 = 1) && (decide (x.2 = tShut) || decide (x.2 = tSemi2))) := by
    unfold atB
    simp only [List.getElem?_cons_zero, Option.getD_some, List.contains_cons, List.contains_nil, Bool.or_false]
    have hb : ∀ a b : Txt, (a == b) = decide (a = b) := fun a b => by rw [Bool.eq_iff_iff, beq_iff_eq, decide_eq_true_iff]
    rw [hb, hb]
  have e2 : endsF (x :: r) = ((decide (x.1 = 1) && (decide (x.2 = tShut) || decide (x.2 = tSemi2))) || (decide (x.1 = 0) && closL.contains x.2)) := rfl
  rw [e2, ← e1]
  refine .inl ⟨_, rfl, bsel_of (fun hb => ?_) (fun hb => ?_)⟩
  · rw [hb]
    exact ⟨rfl, s1.trans s2⟩
  · rw [hb, Bool.false_or]
    refine closers_spec.mono ?_
    rintro _ w3 ⟨q, rfl, hq, s3⟩
    refine .inl ⟨_, _, _, rfl, (at_spec (((h.still s1).still s2).still s3) 0 hq (by decide)).mono ?_⟩
    rintro _ w4 ⟨rfl, s4⟩
    exact .inl ⟨_, rfl, rfl, ((s1.trans s2).trans s3).trans s4⟩
theorem redirects_spec {g : Nat} {s : Ts} (h : Pz w g s) : Calls Tryd.prog fn_syntax_parser_redirects #[.pointer (some ⟨g, 0, none⟩)] w (fun e w' => e = .returned (.bool (redirB s)) ∧ Still w w') := by
  refine syntax_parser_redirects_calls _ _ _ ?_
  refine allocK fun w1 r1 s1 z1 => (at_spec (h.still s1) 1 (StrsAt.row (l := [tLess, tMore, tMore2]) r1) (by decide)).mono ?_
  rintro _ w2 ⟨rfl, s2⟩
  refine .inl ⟨_, rfl, ?_, s1.trans s2⟩
  rw [atB_cons (by decide), atB_cons (by decide), atB_one (by decide)]
  unfold redirB
  rw [Bool.or_assoc]
end Go.Proofs.YtcoeiiihmpnagaaDoor
