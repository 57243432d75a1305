/- Texts of one proof, one behind the other. Conditions: as each theorem names them. -/
import Derived.Test.YtcoeiiihmpnagaaGreatDoorQ6
namespace Go.Proofs.YtcoeiiihmpnagaaGreatDoor
open Go.RowKit Vc
variable {w : World}
abbrev errP (k : Nat) : List PanicEntry := [{ v := .iface 32 (.int .i64 (k : Int)), recovered := false }]
def Pz (w : World) (g : Nat) (s : Ts) : Prop := ∃ a c, Row w g 44 ⟨[.slice a s.length c]⟩ ∧ tkE.At w (fun k => k < g) s (.slice a s.length c)
theorem Pz.lt {g : Nat} {s : Ts} (h : Pz w g s) : g < w.heap.size := by
  obtain ⟨a, c, h, _⟩ := h
  exact h.lt
theorem Pz.mod {S : Nat → Prop} {g : Nat} {s : Ts} {w' : World} (h : Pz w g s) (hm : Mod S w w') (hS : ∀ k, k ≤ g → ¬ S k) : Pz w' g s := by
  obtain ⟨a, c, h1, h2⟩ := h
  exact ⟨a, c, h1.mod hm (hS g (Nat.le_refl _)), h2.mod hm fun k hk => hS k (Nat.le_of_lt hk)⟩
theorem Pz.still {g : Nat} {s : Ts} {w' : World} (h : Pz w g s) (hm : Still w w') : Pz w' g s := h.mod hm fun _ _ h => h
theorem CellsAt.zero {b : Addr} {x : Value} {xs : List Value} (h : CellsAt w b (x :: xs)) : w.cell? b = some x := by
  have a0 : b.add 0 = b := by unfold Addr.add; simp
  have := h 0 x rfl
  rwa [a0] at this
theorem Still.only {g : Nat} {a b : World} (h : Still a b) : Only g a b := h.weaken fun _ h => h.elim
theorem swant_spec (ok : Bool) : Calls Tryz.prog fn_syntax_want #[.bool ok] w (fun e w' => e = (if ok = true then .returned (.tuple #[]) else .panicked (errP 100)) ∧ w' = w) := by
  refine syntax_want_calls _ _ _ ?_
  cases ok with
  | true => exact ⟨rfl, rfl⟩
  | false => exact ⟨rfl, rfl⟩
theorem wantK {ok : Bool} {K : World → Prop} {R : Ending → World → Prop} (h1 : ok = true → K w) (h2 : ok = false → R (.panicked (errP 100)) w) : Calls Tryz.prog fn_syntax_want #[.bool ok] w (fun e w' => (e = .returned (.tuple #[]) ∧ K w') ∨ (∃ c, e = .panicked c ∧ R (.panicked c) w')) := by
  refine (swant_spec ok).mono ?_
  rintro _ w1 ⟨rfl, rfl⟩
  cases ok with
  | true => exact .inl ⟨rfl, h1 rfl⟩
  | false => exact .inr ⟨_, rfl, h2 rfl⟩
theorem sfail_spec (k : Nat) : Calls Tryz.prog fn_syntax_fail #[.int .i64 (k : Int)] w (fun e w' => e = (if k = 0 then .returned (.tuple #[]) else .panicked (errP k)) ∧ w' = w) := by
  refine syntax_fail_calls _ _ _ ?_
  refine bsel_of (fun h => ?_) (fun h => ?_)
  · have h : ¬ (k : Int) = 0 := nt h
    rw [if_neg (by omega)]
    exact ⟨rfl, rfl⟩
  · have h : (k : Int) = 0 := nf h
    rw [if_pos (by omega)]
    exact ⟨rfl, rfl⟩
theorem peek_spec {g : Nat} {s : Ts} (h : Pz w g s) (k : Nat) : Calls Tryz.prog fn_syntax_parser_peek #[.pointer (some ⟨g, 0, none⟩), .int .i64 (k : Int)] w (fun e w' => e = .returned (.agg #[.int .i64 ((((s[k]?).getD (2, [])).1 : Nat) : Int), .string (S ((s[k]?).getD (2, [])).2)]) ∧ Still w w') := by
  refine syntax_parser_peek_calls _ _ _ _ ?_
  obtain ⟨a, c, hr, ht⟩ := h
  refine allocK fun w1 r1 s1 z1 => ⟨a, s.length, c, (hr.still s1).lget rfl, bsel_of (fun hx => ?_) (fun hx => ?_)⟩
  · have hx : s.length ≤ k := by have := of_decide_eq_true hx; omega
    rw [List.getElem?_eq_none hx]
    exact stK r1 (by simp) (by simp [Value.oneCell']) fun w2 r2 m2 z2 => ⟨_, _, r2.lget rfl, r2.lget rfl, rfl, s1.box (Nat.le_refl _) m2⟩
  · have hx : k < s.length := by have := of_decide_eq_false hx; omega
    obtain ⟨b, cs, rfl, _, he, hc⟩ := (ht.still s1).get (List.getElem?_eq_getElem hx)
    obtain rfl : cs = [.int .i64 (s[k].1 : Int), .string (S s[k].2)] := he
    rw [List.getElem?_eq_getElem hx, Int.toNat_natCast]
    exact ⟨some b, s.length, c, (hr.still s1).lget rfl, by omega, by omega, _, _, hc.zero, hc 1 _ rfl, stK r1 (by simp) (by simp [Value.oneCell']) fun w2 r2 m2 z2 => ⟨_, _, r2.lget rfl, r2.lget rfl, rfl, s1.box (Nat.le_refl _) m2⟩⟩
theorem next_spec {g : Nat} {x : Nat × Txt} {r : Ts} (h : Pz w g (x :: r)) : Calls Tryz.prog fn_syntax_parser_next #[.pointer (some ⟨g, 0, none⟩)] w (fun e w' => e = .returned (.agg #[.int .i64 (x.1 : Int), .string (S x.2)]) ∧ Only g w w' ∧ Pz w' g r) := by
  refine syntax_parser_next_calls _ _ _ ?_
  have hg := h.lt
  obtain ⟨a, c, hr, ht⟩ := h
  obtain ⟨a, rfl⟩ := ht.ptr
  have hlen := ht.len.2
  refine allocK fun w1 r1 s1 z1 => ⟨_, _, _, (hr.still s1).lget rfl, by decide, by simp only [List.length_cons]; omega, ?_⟩
  obtain ⟨b, cs, hb, _, he, hc⟩ := (ht.still s1).get (i := 0) rfl
  obtain rfl := Option.some.inj hb
  obtain rfl : cs = [.int .i64 (x.1 : Int), .string (S x.2)] := he
  refine ⟨_, _, hc.zero, hc 1 _ rfl, allocK fun w2 r2 s2 z2 => stK r2 (by simp) (by simp [Value.oneCell']) fun w3 r3 m3 z3 => ?_⟩
  have hr3 := ((hr.still s1).still s2).mod m3 (by intro e; omega)
  have r1' := (r1.still s2).mod m3 (by intro e; omega)
  have ht3 := ((ht.still s1).still s2).mod m3 (by intro k hk e; omega)
  refine ⟨_, _, _, hr3.lget rfl, by decide, by simp only [List.length_cons]; omega, ?_⟩
  refine stK hr3 (by simp) (by simp [Value.oneCell']) fun w4 r4 m4 z4 => ⟨_, _, (r3.mod m4 (by intro e; omega)).lget rfl, (r3.mod m4 (by intro e; omega)).lget rfl, ?_⟩
  refine stK (r1'.mod m4 (by intro e; omega)) (by simp) (by simp [Value.oneCell']) fun w5 r5 m5 z5 => ⟨_, _, r5.lget rfl, r5.lget rfl, rfl, ?_, ?_⟩
  · have o3 : Only g w w3 := ((s1.trans s2).box (g := w1.heap.size) (by omega) m3).only
    exact Mod.trans (Mod.trans o3 m4 (fun _ h => h) (fun _ _ h => h)) m5 (fun _ h => h) (fun i hi e => by omega)
  · have ht5 := (ht3.mod m4 (by intro k hk e; omega)).mod m5 (by intro k hk e; omega)
    have r5' := r4.mod m5 (by intro e; omega)
    have ht6 := ht5.tail
    by_cases hc1 : c = 1
    · have hr0 : r = [] := by
        simp only [List.length_cons] at hlen
        exact List.eq_nil_of_length_eq_zero (by omega)
      subst hr0
      have e : (if c = Int.toNat 1 then some a else Option.map (fun x : Addr => x.add (Int.toNat 1 * 2)) (some a)) = some a := if_pos (by rw [hc1]; rfl)
      refine ⟨some a, c - Int.toNat 1, ?_, Enc.At.nil _ _ _ _ _⟩
      rw [e] at r5'
      exact r5'
    · have e : (if c = Int.toNat 1 then some a else Option.map (fun x : Addr => x.add (Int.toNat 1 * 2)) (some a)) = some (a.add 2) := if_neg (fun h => hc1 h)
      refine ⟨some (a.add 2), c - 1, ?_, ?_⟩
      · rw [e] at r5'
        exact r5'
      · exact ht6
theorem contains_spec {p : Option Addr} {n C : Nat} {l : List Txt} (h : StrsAt w p n l) (hn : n < 1000) (x : Txt) : Calls Tryz.prog fn_slices_Contains_string_string #[.slice p n C, .string (S x)] w (fun e w' => e = .returned (.bool (l.contains x)) ∧ Still w w') := by
  refine slices_Contains_string_string_calls _ _ _ _ _ _ ?_
  have hlen := h.1
  have key : Calls Tryz.prog fn_slices_Index_string_string #[.slice p n C, .string (S x)] w (fun e w' => (∃ z : Int, e = .returned (.int .i64 z) ∧ (0 ≤ z ↔ x ∈ l)) ∧ Still w w') := by
    refine slices_Index_string_string_calls _ _ _ _ _ _ ?_
    refine ⟨fun i w1 => ∃ k : Nat, i = (k : Int) ∧ k ≤ n ∧ x ∉ l.take k ∧ w1 = w, fun i _ => n - i.toNat, ⟨0, rfl, Nat.zero_le _, by simp, rfl⟩, ?_⟩
    rintro _ _ w1 ⟨k, rfl, hk, hno, rfl⟩
    refine bsel_of (fun hx => ?_) (fun hx => ?_)
    · have hx : k < n := by have := of_decide_eq_true hx; omega
      have hkl : k < l.length := by omega
      obtain ⟨b, rfl, cb⟩ := h.get hx
      refine ⟨by omega, by omega, l[k], by rw [Int.toNat_natCast, Nat.mul_one]; exact cb, bsel_of (fun he => ?_) (fun he => ?_)⟩
      · have he : x = l[k] := of_decide_eq_true he
        exact ⟨⟨_, rfl, ⟨fun _ => by rw [he]; exact List.getElem_mem hkl, fun _ => by omega⟩⟩, Still.refl _⟩
      · have he : ¬ x = l[k] := of_decide_eq_false he
        have e1 : IntKind.i64.wrap ((k : Int) + 1) = ((k + 1 : Nat) : Int) := by rw [wrap_i64 (by omega) (by omega)]; omega
        rw [e1]
        refine ⟨⟨k + 1, rfl, hx, ?_, rfl⟩, by dsimp only; omega⟩
        rw [take_one hkl]
        simp only [List.mem_append, List.mem_singleton, not_or]
        exact ⟨hno, he⟩
    · have hx : k = n := by have := of_decide_eq_false hx; omega
      rw [hx, ← hlen, List.take_length] at hno
      exact ⟨⟨-1, rfl, ⟨fun h => absurd h (by decide), fun h => absurd h hno⟩⟩, Still.refl _⟩
  refine key.mono ?_
  rintro _ w1 ⟨⟨z, rfl, hz⟩, s1⟩
  refine .inl ⟨_, rfl, ?_, s1⟩
  have : decide (0 ≤ z) = l.contains x := by
    rw [Bool.eq_iff_iff, decide_eq_true_iff, List.contains_iff_mem]
    exact hz
  rw [this]
def atB (k : Nat) (l : List Txt) (s : Ts) : Bool := decide (((s[0]?).getD (2, [])).1 = k) && l.contains ((s[0]?).getD (2, [])).2
theorem at_spec {g : Nat} {s : Ts} (h : Pz w g s) (k : Nat) {q : Option Addr} {n c : Nat} {l : List Txt} (hq : StrsAt w q n l) (hn : n < 1000) : Calls Tryz.prog fn_syntax_parser_at #[.pointer (some ⟨g, 0, none⟩), .int .i64 (k : Int), .slice q n c] w (fun e w' => e = .returned (.bool (atB k l s)) ∧ Still w w') := by
  refine syntax_parser_at_calls _ _ _ _ _ _ _ ?_
  have h1 := peek_spec h 0
  refine h1.mono ?_
  rintro _ w1 ⟨rfl, s1⟩
  unfold atB
  generalize (s[0]?).getD (2, []) = x
  refine .inl ⟨_, _, rfl, allocK fun w2 r2 s2 z2 => stK r2 (by simp) (by simp [Value.oneCell']) fun w3 r3 m3 z3 => ?_⟩
  have s3 : Still w w3 := (s1.trans s2).box s1.size m3
  refine ⟨_, r3.lget rfl, bsel_of (fun hk => ?_) (fun hk => ?_)⟩
  · have hk : x.1 = k := by have := of_decide_eq_true hk; omega
    refine ⟨_, r3.lget rfl, (contains_spec (hq.still s3) hn x.2).mono ?_⟩
    rintro _ w4 ⟨rfl, s4⟩
    refine .inl ⟨_, rfl, ?_, s3.trans s4⟩
    rw [decide_eq_true hk, Bool.true_and]
  · have hk : ¬ x.1 = k := by have := of_decide_eq_false hk; omega
    rw [decide_eq_false hk, Bool.false_and]
    exact ⟨rfl, s3⟩
theorem atB_one {k : Nat} {t : Txt} (ht : t ≠ []) (s : Ts) : atB k [t] s = isT k t s := by
  unfold atB isT
  cases s with
  | nil =>
    have : ([t] : List Txt).contains [] = false := by
      simp only [List.contains_cons, List.contains_nil, Bool.or_false, beq_eq_false_iff_ne]
      exact fun e => ht e.symm
    simp only [List.getElem?_nil, Option.getD_none, this, Bool.and_false, List.head?_nil]
    exact (decide_eq_false (by simp)).symm
  | cons x r =>
    simp only [List.getElem?_cons_zero, Option.getD_some, List.contains_cons, List.contains_nil, Bool.or_false]
    rw [Bool.eq_iff_iff, Bool.and_eq_true, decide_eq_true_iff, decide_eq_true_iff, beq_iff_eq]
    exact ⟨fun h => congrArg some (Prod.ext h.1 h.2), fun h => by rw [Option.some.inj h]; exact ⟨rfl, rfl⟩⟩
theorem atB_cons {k : Nat} {t : Txt} {l : List Txt} (ht : t ≠ []) (s : Ts) : atB k (t :: l) s = (isT k t s || atB k l s) := by
  rw [← atB_one ht]
  unfold atB
  simp only [List.contains_cons, List.contains_nil, Bool.or_false]
  cases decide (((s[0]?).getD (2, [])).1 = k) <;> rfl
theorem take_spec {g : Nat} {s : Ts} (h : Pz w g s) (k : Nat) {t : Txt} (ht : t ≠ []) : Calls Tryz.prog fn_syntax_parser_take #[.pointer (some ⟨g, 0, none⟩), .int .i64 (k : Int), .string (S t)] w (fun e w' => e = .returned (.bool (isT k t s)) ∧ Only g w w' ∧ Pz w' g (if isT k t s = true then s.tail else s)) := by
  refine syntax_parser_take_calls _ _ _ _ _ ?_
  refine allocK fun w1 r1 s1 z1 => (at_spec (h.still s1) k (StrsAt.row (l := [t]) r1) (show 1 < 1000 by decide)).mono ?_
  rintro _ w2 ⟨rfl, s2⟩
  rw [atB_one ht]
  have h2 := (h.still s1).still s2
  refine .inl ⟨_, rfl, bsel_of (fun hx => ?_) (fun hx => ?_)⟩
  · rw [isT_cons hx] at h2
    rw [hx, if_pos rfl]
    refine (next_spec h2).mono ?_
    rintro _ w3 ⟨rfl, o3, h3⟩
    exact .inl ⟨_, _, rfl, rfl, Mod.trans (s1.trans s2) o3 (fun _ h => h.elim) (fun _ _ h => h), h3⟩
  · rw [hx, if_neg (by decide)]
    exact ⟨rfl, (s1.trans s2).only, h2⟩
def pzLen (g : Nat) (w : World) : Nat := match w.cell? ⟨g, 0, none⟩ with
  | some (.slice _ n _) => n
  | _ => 0
theorem Pz.len {g : Nat} {s : Ts} (h : Pz w g s) : pzLen g w = s.length := by
  obtain ⟨a, c, hr, _⟩ := h
  unfold pzLen
  rw [hr.lget rfl]
theorem lines_spec {g : Nat} {s : Ts} (h : Pz w g s) : Calls Tryz.prog fn_syntax_parser_lines #[.pointer (some ⟨g, 0, none⟩)] w (fun e w' => e = .returned (.tuple #[]) ∧ Only g w w' ∧ Pz w' g (linesF s)) := by
  refine syntax_parser_lines_calls _ _ _ ?_
  refine ⟨fun w1 => ∃ s1, Pz w1 g s1 ∧ linesF s1 = linesF s ∧ Only g w w1, pzLen g, ⟨s, h, rfl, Mod.refl _ _⟩, ?_⟩
  rintro _ w1 ⟨s1, h1, e1, o1⟩
  refine (take_spec h1 2 (t := [10]) (by decide)).mono ?_
  rintro _ w2 ⟨rfl, o2, h2⟩
  refine .inl ⟨_, rfl, bsel_of (fun hx => ?_) (fun hx => ?_)⟩
  · rw [hx, if_pos rfl] at h2
    have hl := isT_len hx
    refine ⟨⟨_, h2, ?_, Mod.trans o1 o2 (fun _ h => h) (fun _ _ h => h)⟩, by rw [h2.len, h1.len]; omega⟩
    rw [← e1, isT_cons hx]
    simp only [linesF, List.tail_cons]
    rw [if_pos (show ((2, [10]) : Nat × Txt) = lineT from rfl)]
  · rw [hx, if_neg (by decide)] at h2
    refine ⟨rfl, Mod.trans o1 o2 (fun _ h => h) (fun _ _ h => h), ?_⟩
    have : linesF s1 = s1 := by
      cases s1 with
      | nil => rfl
      | cons x r =>
        simp only [linesF]
        rw [if_neg]
        intro e
        rw [e] at hx
        exact absurd hx (by unfold isT; simp [lineT])
    rw [← e1, this]
    exact h2
theorem closers_spec : Calls Tryz.prog fn_syntax_closers #[] w (fun e w' => ∃ q, e = .returned (.slice q 8 8) ∧ StrsAt w' q 8 closL ∧ Still w w') := by
  refine syntax_closers_calls _ _ ?_
  exact allocK fun w1 r1 s1 z1 => ⟨_, rfl, StrsAt.row (l := closL) r1, s1⟩
theorem ends_spec {g : Nat} {s : Ts} (h : Pz w g s) : Calls Tryz.prog fn_syntax_parser_ends #[.pointer (some ⟨g, 0, none⟩)] w (fun e w' => e = .returned (.bool (endsF s)) ∧ Still w w') := by
  refine syntax_parser_ends_calls _ _ _ ?_
  obtain ⟨a, c, hr, _⟩ := id h
  refine ⟨_, _, _, hr.lget rfl, bsel_of (fun hx => ?_) (fun hx => ?_)⟩
  · have : s = [] := List.eq_nil_of_length_eq_zero (by have := of_decide_eq_true hx; omega)
    subst this
    exact ⟨rfl, Still.refl _⟩
  have hx : s ≠ [] := by
    rintro rfl
    exact of_decide_eq_false hx rfl
  obtain ⟨x, r, rfl⟩ := List.exists_cons_of_ne_nil hx
  refine allocK fun w1 r1 s1 z1 => (at_spec (h.still s1) 1 (StrsAt.row (l := [tShut, tSemi2]) r1) (by decide)).mono ?_
  rintro _ w2 ⟨rfl, s2⟩
  have e1 : atB 1 [tShut, tSemi2] (x :: r) = (decide (x.1 = 1) && (decide (x.2 = tShut) || decide (x.2 = tSemi2))) := by
    unfold atB
    simp only [List.getElem?_cons_zero, Option.getD_some, List.contains_cons, List.contains_nil, Bool.or_false]
    have hb : ∀ a b : Txt, (a == b) = decide (a = b) := fun a b => by rw [Bool.eq_iff_iff, beq_iff_eq, decide_eq_true_iff]
    rw [hb, hb]
  have e2 : endsF (x :: r) = ((decide (x.1 = 1) && (decide (x.2 = tShut) || decide (x.2 = tSemi2))) || (decide (x.1 = 0) && closL.contains x.2)) := rfl
  rw [e2, ← e1]
  refine .inl ⟨_, rfl, bsel_of (fun hb => ?_) (fun hb => ?_)⟩
  · rw [hb]
    exact ⟨rfl, s1.trans s2⟩
  · rw [hb, Bool.false_or]
    refine closers_spec.mono ?_
    rintro _ w3 ⟨q, rfl, hq, s3⟩
    refine .inl ⟨_, _, _, rfl, (at_spec (((h.still s1).still s2).still s3) 0 hq (by decide)).mono ?_⟩
    rintro _ w4 ⟨rfl, s4⟩
    exact .inl ⟨_, rfl, rfl, ((s1.trans s2).trans s3).trans s4⟩
theorem redirects_spec {g : Nat} {s : Ts} (h : Pz w g s) : Calls Tryz.prog fn_syntax_parser_redirects #[.pointer (some ⟨g, 0, none⟩)] w (fun e w' => e = .returned (.bool (redirB s)) ∧ Still w w') := by
  refine syntax_parser_redirects_calls _ _ _ ?_
  refine allocK fun w1 r1 s1 z1 => (at_spec (h.still s1) 1 (StrsAt.row (l := [tLess, tMore, tMore2]) r1) (by decide)).mono ?_
  rintro _ w2 ⟨rfl, s2⟩
  refine .inl ⟨_, rfl, ?_, s1.trans s2⟩
  rw [atB_cons (by decide), atB_cons (by decide), atB_one (by decide)]
  unfold redirB
  rw [Bool.or_assoc]
def SameBody (gx gy : Nat) (w5 : World) (R : Ending → World → Prop) (K : World → Prop) : Prop :=
  ∃ v : Int, w5.cell? (Addr.mk gx 0 none) = some (.int .i64 v) ∧ ∃ v1 : Int, w5.cell? (Addr.mk gy 0 none) = some (.int .i64 v1) ∧ bsel (!decide (v = v1)) (R (.returned (.bool false)) w5) (∃ v2 : Bool, w5.cell? (Addr.mk gx 1 none) = some (.bool v2) ∧ ∃ v3 : Bool, w5.cell? (Addr.mk gy 1 none) = some (.bool v3) ∧ bsel (!(decide (v2 = v3))) (R (.returned (.bool false)) w5) (∃ v4 : List UInt8, w5.cell? (Addr.mk gx 2 none) = some (.string (S v4)) ∧ ∃ v5 : List UInt8, w5.cell? (Addr.mk gy 2 none) = some (.string (S v5)) ∧ bsel (!(decide (v4 = v5))) (R (.returned (.bool false)) w5) (∃ v6 : List UInt8, w5.cell? (Addr.mk gx 3 none) = some (.string (S v6)) ∧ ∃ v7 : List UInt8, w5.cell? (Addr.mk gy 3 none) = some (.string (S v7)) ∧ bsel (!(decide (v6 = v7))) (R (.returned (.bool false)) w5) (∃ v8 : List UInt8, w5.cell? (Addr.mk gx 4 none) = some (.string (S v8)) ∧ ∃ v9 : List UInt8, w5.cell? (Addr.mk gy 4 none) = some (.string (S v9)) ∧ bsel (!(decide (v8 = v9))) (R (.returned (.bool false)) w5) (∃ (v10 : Option Addr) (vL vC : Nat), w5.cell? (Addr.mk gx 5 none) = some (.slice v10 vL vC) ∧ ∃ (v11 : Option Addr) (vL1 vC1 : Nat), w5.cell? (Addr.mk gy 5 none) = some (.slice v11 vL1 vC1) ∧ Calls Tryz.prog fn_ref08_Same #[(.slice v10 vL vC), (.slice v11 vL1 vC1)] w5 (fun ed w6 => (∃ r : Bool, ed = .returned (.bool r) ∧ bsel (!r) (R (.returned (.bool false)) w6) (K w6)) ∨ (∃ ch, ed = .panicked ch ∧ R (.panicked ch) w6)))))))
theorem sameBody_spec {w5 : World} {gx gy : Nat} {x y : Pt} {xp yp : Option Addr} {xc yc : Nat} {R : Ending → World → Prop} {K : World → Prop} (rx : Row w5 gx 73 ⟨pcell x (.slice xp x.w.length xc)⟩) (ry : Row w5 gy 73 ⟨pcell y (.slice yp y.w.length yc)⟩)
    (ih : Calls Tryz.prog fn_ref08_Same #[.slice xp x.w.length xc, .slice yp y.w.length yc] w5 (fun e w' => (∃ b : Bool, e = .returned (.bool b) ∧ (b = true ↔ x.w = y.w)) ∧ Still w5 w'))
    (hno : x ≠ y → ∀ w', Still w5 w' → R (.returned (.bool false)) w') (hyes : x = y → ∀ w', Still w5 w' → K w') : SameBody gx gy w5 R K := by
  have ne : ∀ {α : Type} (f : Pt → α), f x ≠ f y → R (.returned (.bool false)) w5 := fun f h => hno (fun e => h (by rw [e])) _ (Still.refl _)
  refine ⟨_, rx.lget rfl, _, ry.lget rfl, bsel_of (fun h => ne Pt.k (nt h)) (fun h1 => ⟨_, rx.lget rfl, _, ry.lget rfl, bsel_of (fun h => ne Pt.q (nt h)) (fun h2 => ⟨_, rx.lget rfl, _, ry.lget rfl, bsel_of (fun h => ne Pt.t (nt h)) (fun h3 => ⟨_, rx.lget rfl, _, ry.lget rfl, bsel_of (fun h => ne Pt.n (nt h)) (fun h4 => ⟨_, rx.lget rfl, _, ry.lget rfl, bsel_of (fun h => ne Pt.o (nt h)) (fun h5 => ⟨_, _, _, rx.lget rfl, _, _, _, ry.lget rfl, ih.mono ?_⟩)⟩)⟩)⟩)⟩)⟩
  rintro _ w6 ⟨⟨b, rfl, hb⟩, s6⟩
  have h1 : x.k = y.k := nf h1
  have h2 : x.q = y.q := nf h2
  have h3 : x.t = y.t := nf h3
  have h4 : x.n = y.n := nf h4
  have h5 : x.o = y.o := nf h5
  refine .inl ⟨b, rfl, bsel_of (fun h => ?_) (fun h => ?_)⟩
  · have h : b = false := by simpa using h
    exact hno (fun e => by rw [e] at hb; rw [hb.2 rfl] at h; cases h) _ s6
  · have h : b = true := by simpa using h
    have hw := hb.1 h
    refine hyes ?_ _ s6
    cases x
    cases y
    simp only [Pt.k, Pt.q, Pt.t, Pt.n, Pt.o, Pt.w] at h1 h2 h3 h4 h5 hw
    rw [h1, h2, h3, h4, h5, hw]
theorem same_of : ∀ (n : Nat) (la : List Pt), SizeOf.sizeOf la < n → wtL la < 500000000 → ∀ (lb : List Pt) (w : World) (F G : Nat → Prop) (u v : Value), SlAt w F la u → SlAt w G lb v →
    Calls Tryz.prog fn_ref08_Same #[u, v] w (fun e w' => (∃ b : Bool, e = .returned (.bool b) ∧ (b = true ↔ la = lb)) ∧ Still w w') := by
  intro n
  induction n with
  | zero => intro l h; omega
  | succ n ih =>
    intro la hn hl lb w F G u v hu hv
    obtain ⟨pa, ca, rfl⟩ := hu.form
    obtain ⟨pb, cb, rfl⟩ := hv.form
    have hwl := wtL_len la
    refine ref08_Same_calls _ _ _ _ _ _ _ _ ?_
    refine bsel_of (fun hne => ?_) (fun he => ?_)
    · have hne : ¬ ((la.length : Int) = (lb.length : Int)) := nt hne
      refine ⟨⟨_, rfl, fun h => (by cases h), fun h => ?_⟩, Still.refl _⟩
      rw [h] at hne
      exact absurd rfl hne
    have he : (la.length : Int) = (lb.length : Int) := nf he
    have hlen : lb.length = la.length := by omega
    refine ⟨fun i w1 => ∃ k : Nat, i = (k : Int) ∧ k ≤ la.length ∧ la.take k = lb.take k ∧ Still w w1, fun i _ => la.length - i.toNat, ⟨0, rfl, Nat.zero_le _, rfl, Still.refl _⟩, ?_⟩
    rintro _ _ w1 ⟨k, rfl, hk, hp, hs1⟩
    refine bsel_of (fun hx => ?_) (fun hx => ?_)
    rotate_left
    · have hx : k = la.length := by have := of_decide_eq_false hx; omega
      rw [hx, List.take_length, List.take_of_length_le (by omega)] at hp
      exact ⟨⟨_, rfl, fun _ => hp, fun _ => rfl⟩, hs1⟩
    have hx : k < la.length := by have := of_decide_eq_true hx; omega
    have hy : k < lb.length := by omega
    obtain ⟨ba, xp, xc, rfl, a0, a1, a2, a3, a4, a5, hsx⟩ := (hu.still hs1).fields hx
    obtain ⟨bb, yp, yc, rfl, b0, b1, b2, b3, b4, b5, hsy⟩ := (hv.still hs1).fields hy
    rw [Int.toNat_natCast]
    have e1 : IntKind.i64.wrap ((k : Int) + 1) = ((k + 1 : Nat) : Int) := by rw [wrap_i64 (by omega) (by omega)]; omega
    have body : ∀ (gx gy : Nat) (w5 : World), Row w5 gx 73 ⟨pcell la[k] (.slice xp la[k].w.length xc)⟩ → Row w5 gy 73 ⟨pcell lb[k] (.slice yp lb[k].w.length yc)⟩ → Still w1 w5 →
        SameBody gx gy w5 (fun e w' => (∃ b : Bool, e = .returned (.bool b) ∧ (b = true ↔ la = lb)) ∧ Still w w') (fun w6 => (∃ k' : Nat, IntKind.i64.wrap ((k : Int) + 1) = (k' : Int) ∧ k' ≤ la.length ∧ la.take k' = lb.take k' ∧ Still w w6) ∧ la.length - (IntKind.i64.wrap ((k : Int) + 1)).toNat < la.length - ((k : Int)).toNat) := by
      intro gx gy w5 rx ry s5
      refine sameBody_spec rx ry (ih _ (by have := word_of hx; omega) (by have := wt_word hx; omega) _ w5 F G _ _ (hsx.still s5) (hsy.still s5)) (fun hne w' s' => ⟨⟨_, rfl, fun h => (by cases h), fun h => ?_⟩, (hs1.trans s5).trans s'⟩) (fun heq w' s' => ⟨⟨k + 1, e1, hx, ?_, (hs1.trans s5).trans s'⟩, by rw [e1]; omega⟩)
      · subst h
        exact absurd rfl hne
      · rw [take_one hx, take_one hy, hp, heq]
    have z0 : w1.drew.heap.size = w1.heap.size := rfl
    refine ⟨fun wq => Still w1 wq, drew_still w1, by omega, by omega, _, _, _, _, _, _, _, _, fun wq hq => hq.cell a0, fun wq hq => hq.cell a1, fun wq hq => hq.cell a2, fun wq hq => hq.cell a3, fun wq hq => hq.cell a4, fun wq hq => hq.cell a5, by omega, by omega, _, _, _, _, _, _, _, _, fun wq hq => hq.cell b0, fun wq hq => hq.cell b1, fun wq hq => hq.cell b2, fun wq hq => hq.cell b3, fun wq hq => hq.cell b4, fun wq hq => hq.cell b5, ?_, ?_⟩
    · refine allocK fun w2 r2 s2 z2 => ⟨(drew_still w1).trans s2, allocK fun w3 r3 s3 z3 => ⟨((drew_still w1).trans s2).trans s3, ?_⟩⟩
      have s13 := ((drew_still w1).trans s2).trans s3
      refine stK (r2.still s3) (by simp) one6 fun w4 r4 m4 z4 => ?_
      have s14 : Still w1 w4 := s13.box (by omega) m4
      refine ⟨s14, stK (r3.mod m4 (by omega)) (by simp) one6 fun w5 r5 m5 z5 => body _ _ w5 (r4.mod m5 (by omega)) r5 (s14.box (by omega) m5)⟩
    · refine allocK fun w2 r2 s2 z2 => ⟨(drew_still w1).trans s2, allocK fun w3 r3 s3 z3 => ⟨((drew_still w1).trans s2).trans s3, ?_⟩⟩
      have s13 := ((drew_still w1).trans s2).trans s3
      refine stK r3 (by simp) one6 fun w4 r4 m4 z4 => ?_
      have s14 : Still w1 w4 := s13.box (by omega) m4
      refine ⟨s14, stK ((r2.still s3).mod m4 (by omega)) (by simp) one6 fun w5 r5 m5 z5 => body _ _ w5 (r4.mod m5 (by omega)) r5 (s14.box (by omega) m5)⟩
theorem Same_spec {F G : Nat → Prop} {la lb : List Pt} {u v : Value} (hu : SlAt w F la u) (hv : SlAt w G lb v) (hl : wtL la < 500000000) :
    Calls Tryz.prog fn_ref08_Same #[u, v] w (fun e w' => (∃ b : Bool, e = .returned (.bool b) ∧ (b = true ↔ la = lb)) ∧ Still w w') := same_of _ la (Nat.lt_succ_self _) hl lb w F G u v hu hv
theorem sameWords_spec {F G : Nat → Prop} {la lb : List (List Pt)} {p q : Option Addr} {n m c d : Nat} (hu : wsE.At w F la (.slice p n c)) (hv : wsE.At w G lb (.slice q m d)) (hl : wtW la < 500000000) :
    Calls Tryz.prog fn_ref09_sameWords #[.slice p n c, .slice q m d] w (fun e w' => (∃ b : Bool, e = .returned (.bool b) ∧ (b = true ↔ la = lb)) ∧ Still w w') := by
  obtain ⟨rfl, hlc⟩ := hu.len
  obtain ⟨rfl, _⟩ := hv.len
  have hwl := wtW_len la
  refine ref09_sameWords_calls _ _ _ _ _ _ _ _ ?_
  refine bsel_of (fun hne => ?_) (fun he => ?_)
  · have hne : ¬ ((la.length : Int) = (lb.length : Int)) := nt hne
    refine ⟨⟨_, rfl, fun h => (by cases h), fun h => ?_⟩, Still.refl _⟩
    rw [h] at hne
    exact absurd rfl hne
  have he : (la.length : Int) = (lb.length : Int) := nf he
  have hlen : lb.length = la.length := by omega
  refine ⟨fun i w1 => ∃ k : Nat, i = (k : Int) ∧ k ≤ la.length ∧ la.take k = lb.take k ∧ Still w w1, fun i _ => la.length - i.toNat, ⟨0, rfl, Nat.zero_le _, rfl, Still.refl _⟩, ?_⟩
  rintro _ _ w1 ⟨k, rfl, hk, hp, hs1⟩
  refine bsel_of (fun hx => ?_) (fun hx => ?_)
  rotate_left
  · have hx : k = la.length := by have := of_decide_eq_false hx; omega
    rw [hx, List.take_length, List.take_of_length_le (by omega)] at hp
    exact ⟨⟨_, rfl, fun _ => hp, fun _ => rfl⟩, hs1⟩
  have hx : k < la.length := by have := of_decide_eq_true hx; omega
  have hy : k < lb.length := by omega
  obtain ⟨ba, cs, rfl, _, ⟨va, rfl, hsa⟩, hca⟩ := (hu.still hs1).get (List.getElem?_eq_getElem hx)
  obtain ⟨bb, ds, rfl, _, ⟨vb, rfl, hsb⟩, hcb⟩ := (hv.still hs1).get (List.getElem?_eq_getElem hy)
  obtain ⟨pa, ca, rfl⟩ := hsa.form
  obtain ⟨pb, cb, rfl⟩ := hsb.form
  have hm := wtW_mem (List.getElem_mem hx)
  have e1 : IntKind.i64.wrap ((k : Int) + 1) = ((k + 1 : Nat) : Int) := by rw [wrap_i64 (by omega) (by omega)]; omega
  refine ⟨fun wq => Still w1 wq, drew_still w1, by omega, by omega, _, _, _, fun wq hq => hq.cell hca.zero, by omega, by omega, _, _, _, fun wq hq => hq.cell hcb.zero, (Same_spec (hsa.still (drew_still w1)) (hsb.still (drew_still w1)) (by omega)).mono ?_⟩
  rintro _ w2 ⟨⟨b, rfl, hb⟩, s2⟩
  have s02 := (hs1.trans (drew_still w1)).trans s2
  refine .inl ⟨b, rfl, bsel_of (fun h => ⟨⟨_, rfl, fun h => (by cases h), fun e => ?_⟩, s02⟩) (fun h => ?_)⟩
  · subst e
    have h : b = false := by simpa using h
    rw [hb.2 rfl] at h
    cases h
  · have h : b = true := by simpa using h
    refine ⟨⟨k + 1, e1, hx, ?_, s02⟩, by rw [e1]; dsimp only; omega⟩
    rw [take_one hx, take_one hy, hp, hb.1 h]
theorem sameN_of : ∀ (n : Nat) (x : Nd), x.wt < n → x.wt < 500000000 → ∀ (y : Nd) (w : World) (F G : Nat → Prop) (cs ds : List Value), NdE w F x cs → NdE w G y ds →
    Calls Tryz.prog fn_ref09_Same #[.agg ⟨cs⟩, .agg ⟨ds⟩] w (fun e w' => (∃ b : Bool, e = .returned (.bool b) ∧ (b = true ↔ x = y)) ∧ Still w w') := by
  intro n
  induction n with
  | zero => intro x h; omega
  | succ n ih =>
    intro x hn hl y w F G cs ds hx hy
    have hwt := x.wt_eq
    have hwl := wtP_len x.as
    have hwr := wtP_len x.rs
    have hwo := wtO_len x.os
    have hwk := wtNs_len x.ks
    obtain ⟨pw, cw, pa, ca, pr, cr, po, co, pk, ck, rfl, xw, xa, xr, xo, xk⟩ := hx.outs
    obtain ⟨qw, dw, qa, da, qr, dr, qo, d_o, qk, dk, rfl, yw, ya, yr, yo, yk⟩ := hy.outs
    clear hx hy
    refine ref09_Same_calls _ _ _ _ _ _ _ _ _ _ _ _ _ _ _ _ _ _ _ _ _ _ _ _ _ _ _ _ _ _ _ _ _ _ _ _ _ _ ?_
    have no : x ≠ y → ∀ w', Still w w' → (∃ b : Bool, Ending.returned (.bool false) = .returned (.bool b) ∧ (b = true ↔ x = y)) ∧ Still w w' := fun h w' s => ⟨⟨false, rfl, (fun e => by cases e), fun e => absurd e h⟩, s⟩
    refine allocK fun w1 r1 s1 z1 => allocK fun w2 r2 s2 z2 => ?_
    have s02 := s1.trans s2
    have r1 := r1.still s2
    refine ⟨_, r1.lget rfl, _, r2.lget rfl, bsel_of (fun h => no (fun e => nt h (congrArg Nd.k e)) _ s02) (fun h1 => ?_)⟩
    refine ⟨_, r1.lget rfl, _, r2.lget rfl, bsel_of (fun h => no (fun e => nt h (congrArg Nd.neg e)) _ s02) (fun h2 => ?_)⟩
    refine ⟨_, r1.lget rfl, _, r2.lget rfl, bsel_of (fun h => no (fun e => nt h (congrArg Nd.nm e)) _ s02) (fun h3 => ?_)⟩
    have h1 : x.k = y.k := nf h1
    have h2 : x.neg = y.neg := nf h2
    have h3 : x.nm = y.nm := nf h3
    refine ⟨_, _, _, r1.lget rfl, _, _, _, r2.lget rfl, (sameWords_spec (xw.still s02) (yw.still s02) (by omega)).mono ?_⟩
    rintro _ w3 ⟨⟨b, rfl, hb⟩, s3⟩
    have s03 := s02.trans s3
    have r1 := r1.still s3
    have r2 := r2.still s3
    refine .inl ⟨b, rfl, bsel_of (fun h => no (fun e => ?_) _ s03) (fun h => ?_)⟩
    · have h : b = false := by simpa using h
      rw [hb.2 (congrArg Nd.ws e)] at h
      cases h
    have h4 : x.ws = y.ws := hb.1 (by simpa using h)
    clear h hb b
    have len : ∀ {a b : Nat}, (!decide ((a : Int) = (b : Int))) = true → ¬ a = b := fun h e => nt h (by rw [e])
    have len' : ∀ {a b : Nat}, (!decide ((a : Int) = (b : Int))) = false → b = a := fun h => by have := nf h; omega
    refine ⟨_, _, _, r1.lget rfl, _, _, _, r2.lget rfl, bsel_of (fun h => no (fun e => len h (congrArg (fun z : Nd => z.as.length) e)) _ s03) (fun l5 => ?_)⟩
    refine ⟨_, _, _, r1.lget rfl, _, _, _, r2.lget rfl, bsel_of (fun h => no (fun e => len h (congrArg (fun z : Nd => z.rs.length) e)) _ s03) (fun l6 => ?_)⟩
    refine ⟨_, _, _, r1.lget rfl, _, _, _, r2.lget rfl, bsel_of (fun h => no (fun e => len h (congrArg (fun z : Nd => z.os.length) e)) _ s03) (fun l7 => ?_)⟩
    refine ⟨_, _, _, r1.lget rfl, _, _, _, r2.lget rfl, bsel_of (fun h => no (fun e => len h (congrArg (fun z : Nd => z.ks.length) e)) _ s03) (fun l8 => ?_)⟩
    have l5 := len' l5
    have l6 := len' l6
    have l7 := len' l7
    have l8 := len' l8
    refine ⟨fun i w4 => ∃ k : Nat, i = (k : Int) ∧ k ≤ x.as.length ∧ x.as.take k = y.as.take k ∧ Still w3 w4, fun i _ => x.as.length - i.toNat, ⟨0, rfl, Nat.zero_le _, rfl, Still.refl _⟩, ?_⟩
    rintro _ _ w4 ⟨k, rfl, hk, hp, s4⟩
    have s04 := s03.trans s4
    refine ⟨_, _, _, (r1.still s4).lget rfl, bsel_of (fun hx => ?_) (fun hx => ?_)⟩
    · have hx : k < x.as.length := by have := of_decide_eq_true hx; omega
      have hy : k < y.as.length := by omega
      obtain ⟨ba, cs, rfl, _, ⟨va, rfl, hsa⟩, hca⟩ := (xa.still s04).get (List.getElem?_eq_getElem hx)
      obtain ⟨bb, ds, rfl, _, ⟨vb, rfl, hsb⟩, hcb⟩ := (ya.still s04).get (List.getElem?_eq_getElem hy)
      obtain ⟨pa, ca, rfl⟩ := hsa.form
      obtain ⟨pb, cb, rfl⟩ := hsb.form
      have hm := wtP_mem (List.getElem_mem hx)
      have e1 : IntKind.i64.wrap ((k : Int) + 1) = ((k + 1 : Nat) : Int) := by rw [wrap_i64 (by omega) (by omega)]; omega
      have c1 : ∀ wq, Still w4 wq → wq.cell? (Addr.mk w.heap.size 4 none) = some (.slice (some ba) x.as.length _) := fun wq hq => ((r1.still s4).still hq).lget rfl
      have c2 : ∀ wq, Still w4 wq → wq.cell? (Addr.mk w1.heap.size 4 none) = some (.slice (some bb) y.as.length _) := fun wq hq => ((r2.still s4).still hq).lget rfl
      refine ⟨fun wq => Still w4 wq, drew_still w4, _, _, _, c1, by omega, by omega, _, fun wq hq => hq.cell hca.zero, _, _, _, c2, by omega, by omega, _, fun wq hq => hq.cell hcb.zero, bsel_of (fun h => no (fun e => nt h ?_) _ (s04.trans (drew_still w4))) (fun hnm => ?_)⟩
      · subst e
        rfl
      have hnm : (x.as[k]).1 = (y.as[k]).1 := nf hnm
      refine ⟨_, _, _, c1, by omega, by omega, _, _, _, fun wq hq => hq.cell (hca 1 _ rfl), _, _, _, c2, by omega, by omega, _, _, _, fun wq hq => hq.cell (hcb 1 _ rfl), (Same_spec (hsa.still (drew_still w4)) (hsb.still (drew_still w4)) (by omega)).mono ?_⟩
      rintro _ w5 ⟨⟨b, rfl, hb⟩, s5⟩
      have s45 := (drew_still w4).trans s5
      refine .inl ⟨b, rfl, bsel_of (fun h => no (fun e => ?_) _ (s04.trans s45)) (fun h => ?_)⟩
      · subst e
        have h : b = false := by simpa using h
        rw [hb.2 rfl] at h
        cases h
      · have h : b = true := by simpa using h
        refine ⟨⟨k + 1, e1, hx, ?_, s4.trans s45⟩, by rw [e1]; dsimp only; omega⟩
        rw [take_one hx, take_one hy, hp, Prod.ext hnm (hb.1 h)]
    have h5 : x.as = y.as := by
      have hx : k = x.as.length := by have := of_decide_eq_false hx; omega
      rwa [hx, List.take_length, List.take_of_length_le (by omega)] at hp
    clear hx hp hk k
    have r1 := r1.still s4
    have r2 := r2.still s4
    refine ⟨fun i w6 => ∃ k : Nat, i = (k : Int) ∧ k ≤ x.rs.length ∧ x.rs.take k = y.rs.take k ∧ Still w4 w6, fun i _ => x.rs.length - i.toNat, ⟨0, rfl, Nat.zero_le _, rfl, Still.refl _⟩, ?_⟩
    rintro _ _ w6 ⟨k, rfl, hk, hp, s6⟩
    have s06 := s04.trans s6
    refine ⟨_, _, _, (r1.still s6).lget rfl, bsel_of (fun hx => ?_) (fun hx => ?_)⟩
    · have hx : k < x.rs.length := by have := of_decide_eq_true hx; omega
      have hy : k < y.rs.length := by omega
      obtain ⟨ba, cs, rfl, _, ⟨va, rfl, hsa⟩, hca⟩ := (xr.still s06).get (List.getElem?_eq_getElem hx)
      obtain ⟨bb, ds, rfl, _, ⟨vb, rfl, hsb⟩, hcb⟩ := (yr.still s06).get (List.getElem?_eq_getElem hy)
      obtain ⟨pa, ca, rfl⟩ := hsa.form
      obtain ⟨pb, cb, rfl⟩ := hsb.form
      have hm := wtP_mem (List.getElem_mem hx)
      have e1 : IntKind.i64.wrap ((k : Int) + 1) = ((k + 1 : Nat) : Int) := by rw [wrap_i64 (by omega) (by omega)]; omega
      have c1 : ∀ wq, Still w6 wq → wq.cell? (Addr.mk w.heap.size 5 none) = some (.slice (some ba) x.rs.length _) := fun wq hq => ((r1.still s6).still hq).lget rfl
      have c2 : ∀ wq, Still w6 wq → wq.cell? (Addr.mk w1.heap.size 5 none) = some (.slice (some bb) y.rs.length _) := fun wq hq => ((r2.still s6).still hq).lget rfl
      refine ⟨fun wq => Still w6 wq, drew_still w6, _, _, _, c1, by omega, by omega, _, fun wq hq => hq.cell hca.zero, _, _, _, c2, by omega, by omega, _, fun wq hq => hq.cell hcb.zero, bsel_of (fun h => no (fun e => nt h ?_) _ (s06.trans (drew_still w6))) (fun hnm => ?_)⟩
      · subst e
        rfl
      have hnm : (x.rs[k]).1 = (y.rs[k]).1 := nf hnm
      refine ⟨_, _, _, c1, by omega, by omega, _, _, _, fun wq hq => hq.cell (hca 1 _ rfl), _, _, _, c2, by omega, by omega, _, _, _, fun wq hq => hq.cell (hcb 1 _ rfl), (Same_spec (hsa.still (drew_still w6)) (hsb.still (drew_still w6)) (by omega)).mono ?_⟩
      rintro _ w5 ⟨⟨b, rfl, hb⟩, s5⟩
      have s45 := (drew_still w6).trans s5
      refine .inl ⟨b, rfl, bsel_of (fun h => no (fun e => ?_) _ (s06.trans s45)) (fun h => ?_)⟩
      · subst e
        have h : b = false := by simpa using h
        rw [hb.2 rfl] at h
        cases h
      · have h : b = true := by simpa using h
        refine ⟨⟨k + 1, e1, hx, ?_, s6.trans s45⟩, by rw [e1]; dsimp only; omega⟩
        rw [take_one hx, take_one hy, hp, Prod.ext hnm (hb.1 h)]
    have h6 : x.rs = y.rs := by
      have hx : k = x.rs.length := by have := of_decide_eq_false hx; omega
      rwa [hx, List.take_length, List.take_of_length_le (by omega)] at hp
    clear hx hp hk k
    have r1 := r1.still s6
    have r2 := r2.still s6
    refine ⟨fun i w8 => ∃ k : Nat, i = (k : Int) ∧ k ≤ x.os.length ∧ x.os.take k = y.os.take k ∧ Still w6 w8, fun i _ => x.os.length - i.toNat, ⟨0, rfl, Nat.zero_le _, rfl, Still.refl _⟩, ?_⟩
    rintro _ _ w8 ⟨k, rfl, hk, hp, s8⟩
    have s08 := s06.trans s8
    have r1 := r1.still s8
    have r2 := r2.still s8
    refine ⟨_, _, _, r1.lget rfl, bsel_of (fun hx => ?_) (fun hx => ?_)⟩
    · have hx : k < x.os.length := by have := of_decide_eq_true hx; omega
      have hy : k < y.os.length := by omega
      obtain ⟨ba, cs, rfl, _, hEa, hca⟩ := (xo.still s08).get (List.getElem?_eq_getElem hx)
      obtain ⟨bb, ds, rfl, _, hEb, hcb⟩ := (yo.still s08).get (List.getElem?_eq_getElem hy)
      obtain rfl : cs = _ := hEa
      obtain rfl : ds = _ := hEb
      have e1 : IntKind.i64.wrap ((k : Int) + 1) = ((k + 1 : Nat) : Int) := by rw [wrap_i64 (by omega) (by omega)]; omega
      refine ⟨_, _, _, r1.lget rfl, by omega, by omega, _, hca.zero, _, _, _, r2.lget rfl, by omega, by omega, _, hcb.zero, bsel_of (fun h => no (fun e => nt h ?_) _ (s08.trans (drew_still w8))) (fun hnm => ?_)⟩
      · subst e
        rfl
      have hnm : x.os[k] = y.os[k] := nf hnm
      refine ⟨⟨k + 1, e1, hx, ?_, s8.trans (drew_still w8)⟩, by rw [e1]; dsimp only; omega⟩
      rw [take_one hx, take_one hy, hp, hnm]
    have h7 : x.os = y.os := by
      have hx : k = x.os.length := by have := of_decide_eq_false hx; omega
      rwa [hx, List.take_length, List.take_of_length_le (by omega)] at hp
    clear hx hp hk k
    refine ⟨fun i w9 => ∃ k : Nat, i = (k : Int) ∧ k ≤ x.ks.length ∧ x.ks.take k = y.ks.take k ∧ Still w8 w9, fun i _ => x.ks.length - i.toNat, ⟨0, rfl, Nat.zero_le _, rfl, Still.refl _⟩, ?_⟩
    rintro _ _ w9 ⟨k, rfl, hk, hp, s9⟩
    have s09 := s08.trans s9
    refine ⟨_, _, _, (r1.still s9).lget rfl, bsel_of (fun hx => ?_) (fun hx => ?_)⟩
    · have hx : k < x.ks.length := by have := of_decide_eq_true hx; omega
      have hy : k < y.ks.length := by omega
      obtain ⟨ba, cs, rfl, _, hEa, hca⟩ := (xk.still s09).get (List.getElem?_eq_getElem hx)
      obtain ⟨bb, ds, rfl, _, hEb, hcb⟩ := (yk.still s09).get (List.getElem?_eq_getElem hy)
      have hEa : NdE w9 F (x.ks[k]) cs := hEa
      have hEb : NdE w9 G (y.ks[k]) ds := hEb
      obtain ⟨_, _, _, _, _, _, _, _, _, _, rfl, _⟩ := hEa.outs
      obtain ⟨_, _, _, _, _, _, _, _, _, _, rfl, _⟩ := hEb.outs
      have hm := wtNs_mem (List.getElem_mem hx)
      have e1 : IntKind.i64.wrap ((k : Int) + 1) = ((k + 1 : Nat) : Int) := by rw [wrap_i64 (by omega) (by omega)]; omega
      have c1 : ∀ wq, Still w9 wq → wq.cell? (Addr.mk w.heap.size 7 none) = some (.slice (some ba) x.ks.length _) := fun wq hq => ((r1.still s9).still hq).lget rfl
      have c2 : ∀ wq, Still w9 wq → wq.cell? (Addr.mk w1.heap.size 7 none) = some (.slice (some bb) y.ks.length _) := fun wq hq => ((r2.still s9).still hq).lget rfl
      refine ⟨fun wq => Still w9 wq, drew_still w9, _, _, _, c1, by omega, by omega, _, _, _, _, _, _, _, _, _, _, _, _, _, _, _, _, _, _, fun wq hq => hq.cell hca.zero, fun wq hq => hq.cell (hca 1 _ rfl), fun wq hq => hq.cell (hca 2 _ rfl), fun wq hq => hq.cell (hca 3 _ rfl), fun wq hq => hq.cell (hca 4 _ rfl), fun wq hq => hq.cell (hca 5 _ rfl), fun wq hq => hq.cell (hca 6 _ rfl), fun wq hq => hq.cell (hca 7 _ rfl), _, _, _, c2, by omega, by omega,
        _, _, _, _, _, _, _, _, _, _, _, _, _, _, _, _, _, _, fun wq hq => hq.cell hcb.zero, fun wq hq => hq.cell (hcb 1 _ rfl), fun wq hq => hq.cell (hcb 2 _ rfl), fun wq hq => hq.cell (hcb 3 _ rfl), fun wq hq => hq.cell (hcb 4 _ rfl), fun wq hq => hq.cell (hcb 5 _ rfl), fun wq hq => hq.cell (hcb 6 _ rfl), fun wq hq => hq.cell (hcb 7 _ rfl), (ih _ (by omega) (by omega) _ w9.drew F G _ _ (hEa.still (drew_still w9)) (hEb.still (drew_still w9))).mono ?_⟩
      rintro _ w5 ⟨⟨b, rfl, hb⟩, s5⟩
      have s45 := (drew_still w9).trans s5
      refine .inl ⟨b, rfl, bsel_of (fun h => no (fun e => ?_) _ (s09.trans s45)) (fun h => ?_)⟩
      · subst e
        have h : b = false := by simpa using h
        rw [hb.2 rfl] at h
        cases h
      · have h : b = true := by simpa using h
        refine ⟨⟨k + 1, e1, hx, ?_, s9.trans s45⟩, by rw [e1]; dsimp only; omega⟩
        rw [take_one hx, take_one hy, hp, hb.1 h]
    have h8 : x.ks = y.ks := by
      have hx : k = x.ks.length := by have := of_decide_eq_false hx; omega
      rwa [hx, List.take_length, List.take_of_length_le (by omega)] at hp
    refine ⟨⟨true, rfl, fun _ => ?_, fun _ => rfl⟩, s09⟩
    rw [← x.eta, ← y.eta, h1, h2, h3, h4, h5, h6, h7, h8]
theorem SameN_spec {F G : Nat → Prop} {x y : Nd} {cs ds : List Value} (hx : NdE w F x cs) (hy : NdE w G y ds) (hl : x.wt < 500000000) :
    Calls Tryz.prog fn_ref09_Same #[.agg ⟨cs⟩, .agg ⟨ds⟩] w (fun e w' => (∃ b : Bool, e = .returned (.bool b) ∧ (b = true ↔ x = y)) ∧ Still w w') := sameN_of _ x (Nat.lt_succ_self _) hl y w F G cs ds hx hy
theorem sameN_true {F G : Nat → Prop} {x : Nd} {cs ds : List Value} (hx : NdE w F x cs) (hy : NdE w G x ds) (hl : x.wt < 500000000) :
    Calls Tryz.prog fn_ref09_Same #[.agg ⟨cs⟩, .agg ⟨ds⟩] w (fun e w' => e = .returned (.bool true) ∧ Still w w') := by
  refine (SameN_spec hx hy hl).mono ?_
  rintro e w' ⟨⟨b, rfl, hb⟩, s⟩
  rw [hb.2 rfl]
  exact ⟨rfl, s⟩
def RPost (w : World) (s : Txt) (L : Nat) (e : Ending) (w' : World) : Prop := (match wpL L s with
  | .ok l => ∃ v, e = .returned (.tuple #[v, .int .i64 0]) ∧ SlAt w' (fun k => w.heap.size ≤ k) l v
  | .bad k => e = .returned (.tuple #[.slice none 0 0, .int .i64 (k : Int)])) ∧ Still w w'
def RPartsS (L : Nat) : Prop := ∀ (w : World) (s : Txt), s.length < 1000000 → Calls Tryz.prog fn_ref08_parts #[.string (S s), .int .i64 (31 - (L : Int))] w (RPost w s L)
def BS (w : World) (gp : Nat) (p : Pt) (v : Value) (w' : World) : Prop := Row w' gp 73 ⟨pcell p v⟩ ∧ Row w' w.heap.size 73 ⟨pcell (.mk 0 false [] [] [] []) (.slice none 0 0)⟩ ∧ Still w w'
theorem BS.still {gp : Nat} {p : Pt} {v : Value} {w' w'' : World} (h : BS w gp p v w') (hs : Still w' w'') : BS w gp p v w'' := ⟨h.1.still hs, h.2.1.still hs, h.2.2.trans hs⟩
theorem BS.turn {gp : Nat} {p p' : Pt} {v v' : Value} {w' w'' : World} (h : BS w gp p v w') (hg : w.heap.size < gp) (hm : Mod (fun k => k = gp) w' w'') (hr : Row w'' gp 73 ⟨pcell p' v'⟩) : BS w gp p' v' w'' :=
  ⟨hr, h.2.1.mod hm (by intro e; omega), h.2.2.box (by omega) hm⟩
def RExit (gp gr : Nat) (ex : Int) (w10 : World) (R : Ending → World → Prop) : Prop :=
  ∃ vKind2 : Int, ∃ vQuoted2 : Bool, ∃ vText2 : List UInt8, ∃ vName2 : List UInt8, ∃ vOp2 : List UInt8, ∃ (vWord2 : Option Addr) (vWordL2 vWordC2 : Nat), w10.cell? (Addr.mk gp 0 none) = some (.int .i64 vKind2) ∧ w10.cell? (Addr.mk gp 1 none) = some (.bool vQuoted2) ∧ w10.cell? (Addr.mk gp 2 none) = some (.string (S vText2)) ∧ w10.cell? (Addr.mk gp 3 none) = some (.string (S vName2)) ∧ w10.cell? (Addr.mk gp 4 none) = some (.string (S vOp2)) ∧ w10.cell? (Addr.mk gp 5 none) = some (.slice vWord2 vWordL2 vWordC2) ∧ stCells (Addr.mk gr 0 none) (fun (w11 : World) => ∃ vKind3 : Int, ∃ vQuoted3 : Bool, ∃ vText3 : List UInt8, ∃ vName3 : List UInt8, ∃ vOp3 : List UInt8, ∃ (vWord3 : Option Addr) (vWordL3 vWordC3 : Nat), w11.cell? (Addr.mk gr 0 none) = some (.int .i64 vKind3) ∧ w11.cell? (Addr.mk gr 1 none) = some (.bool vQuoted3) ∧ w11.cell? (Addr.mk gr 2 none) = some (.string (S vText3)) ∧ w11.cell? (Addr.mk gr 3 none) = some (.string (S vName3)) ∧ w11.cell? (Addr.mk gr 4 none) = some (.string (S vOp3)) ∧ w11.cell? (Addr.mk gr 5 none) = some (.slice vWord3 vWordL3 vWordC3) ∧ R (.returned (.tuple #[(.agg #[(.int .i64 vKind3), (.bool vQuoted3), (.string (S vText3)), (.string (S vName3)), (.string (S vOp3)), (.slice vWord3 vWordL3 vWordC3)]), (.int .i64 ex)])) w11) 0 [(.int .i64 vKind2), (.bool vQuoted2), (.string (S vText2)), (.string (S vName2)), (.string (S vOp2)), (.slice vWord2 vWordL2 vWordC2)] w10
theorem rExit_spec {w10 : World} {gp : Nat} {ex : Int} {x : Pt} {wp : Option Addr} {wc : Nat} {R : Ending → World → Prop} (h : BS w gp x (.slice wp x.w.length wc) w10) (hR : ∀ w', Mod (fun k => k = w.heap.size) w10 w' → R (.returned (.tuple #[pagg x (.slice wp x.w.length wc), .int .i64 ex])) w') : RExit gp w.heap.size ex w10 R :=
  ⟨_, _, _, _, _, _, _, _, h.1.lget rfl, h.1.lget rfl, h.1.lget rfl, h.1.lget rfl, h.1.lget rfl, h.1.lget rfl, stK h.2.1 (by simp [pcell]) one6 fun w11 r11 m11 _ => ⟨_, _, _, _, _, _, _, _, r11.lget rfl, r11.lget rfl, r11.lget rfl, r11.lget rfl, r11.lget rfl, r11.lget rfl, hR w11 m11⟩⟩
def RBPost (w : World) (L : Nat) (q : Bool) (s : Txt) (e : Ending) (w' : World) : Prop := (∃ x vw, SlAt w' (fun k => w.heap.size ≤ k) x.w vw ∧ match bracesF (wpL L) q s with
  | .ok p => e = .returned (.tuple #[pagg x vw, .int .i64 0]) ∧ x = p
  | .bad k => e = .returned (.tuple #[pagg x vw, .int .i64 (k : Int)])) ∧ Still w w'
set_option maxHeartbeats 1000000 in
theorem ref_braces_of {L : Nat} (hL : L ≤ 30) (ih : RPartsS L) (s : Txt) (q : Bool) (hs : s.length < 1000000) : Calls Tryz.prog fn_ref08_braces #[.string (S s), .bool q, .int .i64 (30 - (L : Int))] w (RBPost w L q s) := by
  refine ref08_braces_calls _ _ _ _ _ ?_
  refine allocK fun w1 r1 s1 z1 => allocK fun w2 r2 s2 z2 => stK r2 (by simp) (by simp [Value.oneCell']) fun w3 r3 m3 z3 => ?_
  have hg : w.heap.size < w1.heap.size := by omega
  have b3 : BS w w1.heap.size (.mk 1 q [] [] [] []) (.slice none 0 0) w3 := ⟨r3, (r1.still s2).mod m3 (by intro e; omega), (s1.trans s2).box (by omega) m3⟩
  have hpl := paramN_le s
  -- an end
  have fin : ∀ (x : Pt) (wp : Option Addr) (wc : Nat) (ex : Nat) (w7 : World), BS w w1.heap.size x (.slice wp x.w.length wc) w7 → SlAt w7 (fun k => w.heap.size < k) x.w (.slice wp x.w.length wc) →
      (match bracesF (wpL L) q s with
        | .ok p => ex = 0 ∧ x = p
        | .bad k => ex = k) → RExit w1.heap.size w.heap.size (ex : Int) w7 (RBPost w L q s) := by
    intro x wp wc ex w7 b7 hsl hm
    refine rExit_spec b7 fun w8 m8 => ⟨⟨x, _, (hsl.mod m8 fun k hk e => by omega).mono fun k hk => by omega, ?_⟩, b7.2.2.box (Nat.le_refl _) m8⟩
    cases hb : bracesF (wpL L) q s with
    | ok p =>
      rw [hb] at hm
      obtain ⟨rfl, h⟩ := hm
      exact ⟨rfl, h⟩
    | bad k =>
      rw [hb] at hm
      have hm : ex = k := hm
      rw [hm]
  refine ⟨fun w9 => ¬ (1 < s.length ∧ s.head? = some 35 ∧ paramN (s.drop 1) = s.length - 1) ∧ BS w w1.heap.size (.mk 1 q [] [] [] []) (.slice none 0 0) w9, ⟨fun b w5 => (b = true ↔ (1 < s.length ∧ s.head? = some 35 ∧ paramN (s.drop 1) = s.length - 1)) ∧ BS w w1.heap.size (.mk 1 q [] [] [] []) (.slice none 0 0) w5, bsel_of (fun h => ?_) (fun h => ⟨⟨fun e => (by cases e), fun e => absurd e.1 (by have := of_decide_eq_false h; omega)⟩, b3⟩), ?_⟩, ?_⟩
  · have h : 1 < s.length := by have := of_decide_eq_true h; omega
    obtain ⟨c, r, hcr⟩ : ∃ c r, s = c :: r := by
      cases s with
      | nil => simp at h
      | cons c r => exact ⟨c, r, rfl⟩
    have hhd : s.head? = some c := by rw [hcr]; rfl
    refine ⟨by decide, c, by rw [hcr]; rfl, bsel_of (fun h1 => ?_) (fun h1 => ?_)⟩
    · have h1 : c = 35 := byte_eq.1 (of_decide_eq_true h1)
      refine ⟨by decide, by omega, (ref_param_spec (s.drop 1) (by rw [List.length_drop]; omega)).mono ?_⟩
      rintro _ w4 ⟨rfl, rfl⟩
      refine .inl ⟨_, rfl, ?_, b3⟩
      have hp1 := paramN_le (s.drop 1)
      rw [List.length_drop] at hp1
      rw [decide_eq_true_eq, wrap_i64 (by omega) (by omega)]
      exact ⟨fun e => ⟨h, by rw [hhd, h1], by omega⟩, fun e => by have := e.2.2; omega⟩
    · have h1 : ¬ c = 35 := fun e => of_decide_eq_false h1 (byte_eq.2 e)
      refine ⟨⟨fun e => (by cases e), fun e => ?_⟩, b3⟩
      rw [hhd] at e
      exact absurd (Option.some.inj e.2.1) h1
  · rintro b _ w5 ⟨hb, b5⟩
    refine bsel_of (fun h => ?_) (fun h => ⟨fun hc => (by rw [hb.2 hc] at h; cases h), b5⟩)
    have hc := hb.1 h
    refine ⟨by decide, by omega, stK b5.1 (by simp [pcell]) (by simp [Value.oneCell']) fun w6 r6 m6 z6 => stK r6 (by simp [ovw, pcell]) (by simp [Value.oneCell']) fun w7 r7 m7 z7 => ?_⟩
    have b6 : BS w w1.heap.size (.mk 1 q [] (s.drop 1) [] []) (.slice none 0 0) w6 := b5.turn hg m6 r6
    have b7 : BS w w1.heap.size (.mk 1 q [] (s.drop 1) lenO []) (.slice none 0 0) w7 := b6.turn hg m7 r7
    exact fin _ _ _ 0 w7 b7 (SlAt.nil _ _ _ _) (by
      have : bracesF (wpL L) q s = .ok (.mk 1 q [] (s.drop 1) lenO []) := by unfold bracesF; rw [if_pos hc]
      rw [this]
      exact ⟨rfl, rfl⟩)
  rintro _ w9 ⟨hno, b9⟩
  refine (ref_param_spec s hs).mono ?_
  rintro _ w10 ⟨rfl, rfl⟩
  refine .inl ⟨_, rfl, bsel_of (fun h => ?_) (fun h => ?_)⟩
  · have h : paramN s = 0 := by have := of_decide_eq_true h; omega
    refine fin _ _ _ 90 _ b9 (SlAt.nil _ _ _ _) ?_
    have : bracesF (wpL L) q s = .bad 90 := by unfold bracesF; rw [if_neg hno, if_pos h]
    rw [this]
  have h : ¬ paramN s = 0 := by have := of_decide_eq_false h; omega
  rw [Int.toNat_natCast]
  refine ⟨by omega, by omega, stK b9.1 (by simp [pcell]) (by simp [Value.oneCell']) fun w12 r12 m12 z12 => ?_⟩
  have b12 : BS w w1.heap.size (.mk 1 q [] (s.take (paramN s)) [] []) (.slice none 0 0) w12 := b9.turn hg m12 r12
  refine ⟨by omega, by omega, bsel_of (fun h2 => ?_) (fun h2 => ?_)⟩
  · have h2 : s.drop (paramN s) = [] := of_decide_eq_true h2
    refine fin _ _ _ 0 _ b12 (SlAt.nil _ _ _ _) ?_
    have : bracesF (wpL L) q s = .ok (.mk 1 q [] (s.take (paramN s)) [] []) := by unfold bracesF; rw [if_neg hno, if_neg h, if_pos h2]
    rw [this]
    exact ⟨rfl, rfl⟩
  have h2 : ¬ s.drop (paramN s) = [] := of_decide_eq_false h2
  have z12' : w.heap.size < w12.heap.size := b12.2.1.lt
  have g12 : w1.heap.size < w12.heap.size := b12.1.lt
  refine allocK fun w14 r14 s14 z14 => ?_
  have r14 : Row w14 w12.heap.size 9 ⟨strs opsL⟩ := r14
  have hop := opOf_len (s.drop (paramN s))
  have hopl : (s.drop (paramN s)).length = s.length - paramN s := List.length_drop
  refine ⟨fun i w15 => ∃ (k : Nat) (o : Txt), i = (k : Int) ∧ k ≤ 12 ∧ BS w w1.heap.size (.mk 1 q [] (s.take (paramN s)) o []) (.slice none 0 0) w15 ∧ Row w15 w12.heap.size 9 ⟨strs opsL⟩ ∧ (o = [] ∧ (opsL.drop k).find? (fun o => pf o (s.drop (paramN s))) = opsL.find? (fun o => pf o (s.drop (paramN s))) ∨ o ≠ [] ∧ o = opOf (s.drop (paramN s))), fun i _ => 12 - i.toNat, ⟨0, [], rfl, by omega, b12.still s14, r14, .inl ⟨rfl, rfl⟩⟩, ?_⟩
  rintro _ _ w15 ⟨k, o, rfl, hk, b15, r15, ho⟩
  refine ⟨fun w31 => w31 = w15 ∧ k < 12 ∧ o = [], ⟨fun b w16 => w16 = w15 ∧ (b = true ↔ k < 12 ∧ o = []), bsel_of (fun h3 => ⟨o, b15.1.lget rfl, rfl, ?_⟩) (fun h3 => ⟨rfl, fun e => (by cases e), fun e => absurd e.1 (by have := of_decide_eq_false h3; omega)⟩), ?_⟩, ?_⟩
  · rw [decide_eq_true_eq]
    exact ⟨fun e => ⟨by have := of_decide_eq_true h3; omega, e⟩, fun e => e.2⟩
  rotate_left
  · -- one operator more
    rintro _ w31 ⟨rfl, hk, rfl⟩
    have hf := (ho.resolve_right fun e => e.1 rfl).2
    have hk' : k < opsL.length := hk
    obtain ⟨a, ha, hc⟩ := (StrsAt.row r15).get hk'
    obtain rfl := Option.some.inj ha
    rw [find_step hk'] at hf
    have hlo : opsL[k].length ≤ 2 := by
      have : ∀ o ∈ opsL, o.length ≤ 2 := by decide
      exact this _ (List.getElem_mem hk')
    have hne : opsL[k] ≠ [] := by
      have : ∀ o ∈ opsL, o ≠ [] := by decide
      exact this _ (List.getElem_mem hk')
    have e1 : IntKind.i64.wrap ((k : Int) + 1) = ((k + 1 : Nat) : Int) := by rw [wrap_i64 (by omega) (by omega)]; omega
    have hc' : w31.cell? ((Addr.mk w12.heap.size 0 none).add (Int.toNat (k : Int) * 1)) = some (.string (S opsL[k])) := by rw [Int.toNat_natCast, Nat.mul_one]; exact hc
    rw [e1]
    refine ⟨by omega, by omega, _, hc', (ref_begins_spec _ _ (by omega) (by omega)).mono ?_⟩
    rintro _ w32 ⟨rfl, rfl⟩
    refine .inl ⟨_, rfl, bsel_of (fun h4 => ⟨by omega, by omega, _, hc', ?_⟩) (fun h4 => ?_)⟩
    · refine stK b15.1 (by simp [pcell]) (by simp [Value.oneCell']) fun w33 r33 m33 z33 => ⟨⟨k + 1, opsL[k], rfl, by omega, b15.turn hg m33 r33, r15.mod m33 (by intro e; omega), .inr ⟨hne, ?_⟩⟩, by dsimp only; omega⟩
      rw [if_pos h4] at hf
      unfold opOf
      rw [← hf]
      rfl
    · rw [if_neg (by rw [h4]; decide)] at hf
      exact ⟨⟨k + 1, [], rfl, by omega, b15, r15, .inl ⟨rfl, hf⟩⟩, by dsimp only; omega⟩
  rintro b _ w16 ⟨rfl, hb⟩
  refine bsel_of (fun h3 => ⟨rfl, hb.1 h3⟩) (fun h3 => ?_)
  have hoe : o = opOf (s.drop (paramN s)) := by
    rcases ho with ⟨rfl, hf⟩ | ho
    · have hk2 : k = 12 := by
        rcases Nat.lt_or_ge k 12 with e | e
        · rw [hb.2 ⟨e, rfl⟩] at h3; cases h3
        · omega
      subst hk2
      unfold opOf
      rw [← hf]
      rfl
    · exact ho.2
  subst hoe
  clear ho hb h3
  refine ⟨fun w21 => w21 = w16 ∧ ¬ (opOf (s.drop (paramN s)) = [] ∨ ((opOf (s.drop (paramN s)) = [61] ∨ opOf (s.drop (paramN s)) = [58, 61]) ∧ nameN (s.take (paramN s)) = 0)), ⟨fun b w19 => w19 = w16 ∧ (b = true ↔ (opOf (s.drop (paramN s)) = [] ∨ ((opOf (s.drop (paramN s)) = [61] ∨ opOf (s.drop (paramN s)) = [58, 61]) ∧ nameN (s.take (paramN s)) = 0))), ⟨_, b15.1.lget rfl, bsel_of (fun h3 => ⟨rfl, fun _ => .inl (of_decide_eq_true h3), fun _ => rfl⟩) (fun h3 => ⟨_, b15.1.lget rfl, bsel_of (fun h4 => ⟨_, b15.1.lget rfl, ?_⟩) (fun h4 => ⟨_, b15.1.lget rfl, bsel_of (fun h5 => ⟨_, b15.1.lget rfl, ?_⟩) (fun h5 => ⟨rfl, fun e => (by cases e), fun e => ?_⟩)⟩)⟩)⟩, ?_⟩, ?_⟩
  · have h3 := of_decide_eq_false h3
    have h4 := of_decide_eq_true h4
    refine (ref_Name_spec (s.take (paramN s)) (by rw [List.length_take]; omega)).mono ?_
    rintro _ w17 ⟨rfl, rfl⟩
    refine .inl ⟨_, rfl, rfl, ?_⟩
    rw [decide_eq_true_eq]
    exact ⟨fun e => .inr ⟨.inl h4, by omega⟩, fun e => by have := (e.resolve_left h3).2; omega⟩
  · have h3 := of_decide_eq_false h3
    have h5 := of_decide_eq_true h5
    refine (ref_Name_spec (s.take (paramN s)) (by rw [List.length_take]; omega)).mono ?_
    rintro _ w17 ⟨rfl, rfl⟩
    refine .inl ⟨_, rfl, rfl, ?_⟩
    rw [decide_eq_true_eq]
    exact ⟨fun e => .inr ⟨.inr h5, by omega⟩, fun e => by have := (e.resolve_left h3).2; omega⟩
  · have h3 := of_decide_eq_false h3
    have h4 := of_decide_eq_false h4
    have h5 := of_decide_eq_false h5
    rcases (e.resolve_left h3).1 with e | e
    · exact absurd e h4
    · exact absurd e h5
  · rintro b _ w19 ⟨rfl, hb⟩
    refine bsel_of (fun h6 => ?_) (fun h6 => ⟨rfl, fun hc => (by rw [hb.2 hc] at h6; cases h6)⟩)
    refine fin _ _ _ 90 _ b15 (SlAt.nil _ _ _ _) ?_
    have : bracesF (wpL L) q s = .bad 90 := by unfold bracesF; rw [if_neg hno, if_neg h, if_neg h2, if_pos (hb.1 h6)]
    rw [this]
  rintro _ w21 ⟨rfl, h3⟩
  have hbr : bracesF (wpL L) q s = (wpL L ((s.drop (paramN s)).drop (opOf (s.drop (paramN s))).length)).and fun w => if hasL w = true then .bad 90 else .ok (.mk 1 q [] (s.take (paramN s)) (opOf (s.drop (paramN s))) (if q = true then qdL [] w else w)) := by
    unfold bracesF
    rw [if_neg hno, if_neg h, if_neg h2, if_neg h3]
  refine ⟨opOf (s.drop (paramN s)), b15.1.lget rfl, by omega, by omega, ?_⟩
  rw [Int.toNat_natCast, show IntKind.i64.wrap (30 - (L : Int) + 1) = 31 - (L : Int) by rw [wrap_i64 (by omega) (by omega)]; omega]
  have z15 : w.heap.size < w21.heap.size := b15.2.1.lt
  have g15 : w1.heap.size < w21.heap.size := b15.1.lt
  have hinl : ((s.drop (paramN s)).drop (opOf (s.drop (paramN s))).length).length ≤ s.length - (paramN s + (opOf (s.drop (paramN s))).length) := by rw [List.length_drop, List.length_drop]; omega
  refine (ih w21 _ (by omega)).mono ?_
  rintro e22 w22 ⟨hp, s22⟩
  have b22 := b15.still s22
  have z22 := s22.size
  cases hw : wpL L ((s.drop (paramN s)).drop (opOf (s.drop (paramN s))).length) with
  | bad k =>
    rw [hw] at hp
    have hk : k ≠ 0 := fun e => wpL_nz L _ (by rw [hw, e])
    refine .inl ⟨none, 0, 0, (k : Int), hp, bsel_of (fun _ => ?_) (fun hh => absurd (nf hh) (by omega))⟩
    refine fin _ _ _ k _ b22 (SlAt.nil _ _ _ _) ?_
    rw [hbr, hw]
    rfl
  | ok l =>
    rw [hw] at hp
    obtain ⟨v, rfl, hsl⟩ := hp
    obtain ⟨wp, wc, rfl⟩ := hsl.form
    have hwl := wpL_wt L _ _ hw
    refine .inl ⟨wp, l.length, wc, 0, rfl, bsel_of (fun hh => absurd rfl (nt hh)) (fun _ => (commands_spec hsl (by omega)).mono ?_)⟩
    rintro _ w24 ⟨rfl, s24⟩
    have b24 := b22.still s24
    have z24 := s24.size
    refine .inl ⟨_, rfl, bsel_of (fun h7 => ?_) (fun h7 => stK b24.1 (by simp [pcell]) (by simp [Value.oneCell']) fun w26 r26 m26 z26 => ?_)⟩
    · refine fin _ _ _ 90 _ b24 (SlAt.nil _ _ _ _) ?_
      rw [hbr, hw]
      simp only [Rs.and]
      rw [if_pos h7]
    have b26 : BS w w1.heap.size (.mk 1 q [] (s.take (paramN s)) (opOf (s.drop (paramN s))) l) (.slice wp l.length wc) w26 := b24.turn hg m26 r26
    have hsl26 := (hsl.still s24).mod m26 fun k hk e => by omega
    refine ⟨fun w29 => RExit w1.heap.size w.heap.size 0 w29 (RBPost w L q s), bsel_of (fun hq => (quotes_spec hsl26 (by omega)).mono ?_) (fun hq => ?_), fun _ w29 h => h⟩
    · rintro _ w27 ⟨v27, rfl, hsl27, s27⟩
      obtain ⟨qp, qc, rfl⟩ := hsl27.form
      have b27 := b26.still s27
      refine .inl ⟨_, _, _, rfl, stK b27.1 (by simp [pcell]) (by simp [Value.oneCell']) fun w28 r28 m28 z28 => ?_⟩
      have b28 : BS w w1.heap.size (.mk 1 q [] (s.take (paramN s)) (opOf (s.drop (paramN s))) (qdL [] l)) (.slice qp (qdL [] l).length qc) w28 := b27.turn hg m28 r28
      refine fin _ _ _ 0 w28 b28 ((hsl27.mod m28 fun k hk e => by omega).mono fun k hk => by omega) ?_
      rw [hbr, hw]
      simp only [Rs.and]
      rw [if_neg (by rw [h7]; decide), if_pos hq]
      exact ⟨trivial, rfl⟩
    · refine fin _ _ _ 0 w26 b26 (hsl26.mono fun k hk => by omega) ?_
      rw [hbr, hw]
      simp only [Rs.and]
      rw [if_neg (by rw [h7]; decide), if_neg (by rw [hq]; decide)]
      exact ⟨trivial, rfl⟩
theorem pf_dollar (x : UInt8) (r : Txt) : pf [36, x] (36 :: r) = decide (r.head? = some x) := by
  rw [pf_isPrefixOf]
  cases r with
  | nil => rfl
  | cons c r =>
    rw [Bool.eq_iff_iff]
    simp [List.isPrefixOf]
    exact eq_comm
def RDPost (w : World) (L : Nat) (q : Bool) (s : Txt) (e : Ending) (w' : World) : Prop := (∃ (x : Pt) (vw : Value) (n : Nat), SlAt w' (fun k => w.heap.size ≤ k) x.w vw ∧ match dollarF (wpL L) q s with
  | .ok p => e = .returned (.tuple #[pagg x vw, .int .i64 (n : Int), .int .i64 0]) ∧ p = (x, n)
  | .bad k => e = .returned (.tuple #[pagg x vw, .int .i64 (n : Int), .int .i64 (k : Int)])) ∧ Still w w'
set_option maxHeartbeats 1000000 in
theorem ref_dollar_of {L : Nat} (hL : L ≤ 30) (ih : RPartsS L) (r : Txt) (q : Bool) (hl : (36 :: r).length < 1000000) : Calls Tryz.prog fn_ref08_dollar #[.string (S (36 :: r)), .bool q, .int .i64 (30 - (L : Int))] w (RDPost w L q (36 :: r)) := by
  refine ref08_dollar_calls _ _ _ _ _ ?_
  refine allocK fun w1 r1 s1 z1 => ?_
  have hl' : r.length < 999999 := by simp only [List.length_cons] at hl; omega
  -- an end
  have fin : ∀ (x : Pt) (n : Nat) (w5 : World), Row w5 w.heap.size 73 ⟨pcell (.mk 0 false [] [] [] []) (.slice none 0 0)⟩ → Still w w5 → x.w = [] → dollarF (wpL L) q (36 :: r) = .ok (x, n) →
      stCells (Addr.mk w.heap.size 0 none) (fun (w6 : World) => ∃ vKind : Int, ∃ vQuoted : Bool, ∃ vText : List UInt8, ∃ vName : List UInt8, ∃ vOp : List UInt8, ∃ (vWord : Option Addr) (vWordL vWordC : Nat), w6.cell? (Addr.mk w.heap.size 0 none) = some (.int .i64 vKind) ∧ w6.cell? (Addr.mk w.heap.size 1 none) = some (.bool vQuoted) ∧ w6.cell? (Addr.mk w.heap.size 2 none) = some (.string (S vText)) ∧ w6.cell? (Addr.mk w.heap.size 3 none) = some (.string (S vName)) ∧ w6.cell? (Addr.mk w.heap.size 4 none) = some (.string (S vOp)) ∧ w6.cell? (Addr.mk w.heap.size 5 none) = some (.slice vWord vWordL vWordC) ∧ RDPost w L q (36 :: r) (.returned (.tuple #[(.agg #[(.int .i64 vKind), (.bool vQuoted), (.string (S vText)), (.string (S vName)), (.string (S vOp)), (.slice vWord vWordL vWordC)]), (.int .i64 (n : Int)), (.int .i64 (0 : Int))])) w6) 0 [.int .i64 x.k, .bool x.q, .string (S x.t), .string (S x.n), .string (S x.o), .slice none 0 0] w5 := by
    intro x n w5 r5 s5 hx hd
    refine stK r5 (by simp [pcell]) (by simp [Value.oneCell']) fun w6 r6 m6 z6 => ⟨x.k, x.q, x.t, x.n, x.o, none, 0, 0, r6.lget rfl, r6.lget rfl, r6.lget rfl, r6.lget rfl, r6.lget rfl, r6.lget rfl, ⟨x, .slice none 0 0, n, by rw [hx]; exact SlAt.nil _ _ _ _, ?_⟩, s5.box (Nat.le_refl _) m6⟩
    rw [hd]
    exact ⟨rfl, rfl⟩
  refine ⟨fun w15 => w15 = w1 ∧ ¬ (r.head? = some 40 ∨ r.head? = some 123), ⟨fun b w4 => w4 = w1 ∧ (b = true ↔ r.head? = some 40 ∨ r.head? = some 123), (ref_begins_spec (36 :: r) [36, 40] hl (by decide)).mono ?_, ?_⟩, ?_⟩
  · rintro _ w2 ⟨rfl, rfl⟩
    rw [pf_dollar]
    refine .inl ⟨_, rfl, bsel_of (fun h => ⟨rfl, fun _ => .inl (of_decide_eq_true h), fun _ => rfl⟩) (fun h => (ref_begins_spec (36 :: r) [36, 123] hl (by decide)).mono ?_)⟩
    rintro _ w3 ⟨rfl, rfl⟩
    rw [pf_dollar]
    refine .inl ⟨_, rfl, rfl, ?_⟩
    rw [decide_eq_true_eq]
    exact ⟨.inr, fun e => e.resolve_left (of_decide_eq_false h)⟩
  · rintro b _ w4 ⟨rfl, hb⟩
    refine bsel_of (fun h => ?_) (fun h => ⟨rfl, fun e => (by rw [hb.2 e] at h; cases h)⟩)
    have hh := hb.1 h
    obtain ⟨c, y, rfl⟩ : ∃ c y, r = c :: y := by
      cases r with
      | nil => rcases hh with e | e <;> cases e
      | cons c y => exact ⟨c, y, rfl⟩
    have hc : c = 40 ∨ c = 123 := by simpa using hh
    refine (ref_skip_spec (36 :: c :: y) 0 (by simp) hl).mono ?_
    rintro _ w5 ⟨rfl, rfl⟩
    have hd := dollarF_group (P := wpL L) (q := q) (r := y) hc
    rw [List.drop_zero]
    refine .inl ⟨_, rfl, ?_⟩
    cases hu : unitD 30 (36 :: c :: y) with
    | none =>
      rw [hu] at hd
      refine bsel_of (fun _ => ?_) (fun h => absurd (show (-1 : Int) < 0 by decide) (of_decide_eq_false h))
      refine stK r1 (by simp) (by simp [Value.oneCell']) fun w6 r6 m6 z6 => ⟨0, false, [], [], [], none, 0, 0, r6.lget rfl, r6.lget rfl, r6.lget rfl, r6.lget rfl, r6.lget rfl, r6.lget rfl, ⟨.mk 0 false [] [] [] [], .slice none 0 0, 0, SlAt.nil _ _ _ _, ?_⟩, s1.box (Nat.le_refl _) m6⟩
      rw [hd]
      rfl
    | some t =>
      obtain ⟨h1, h2, h3⟩ := unitN_pos hu
      have h4 := unit_bracket hc hu
      have hix : ix (36 :: c :: y) (some t) = (unitN (36 :: c :: y) : Int) := by rw [h1]; rfl
      rw [hu] at hd
      dsimp only at hd
      rw [hix]
      generalize unitN (36 :: c :: y) = n at h1 h2 h3 hd hix
      have h5 : 3 ≤ n := by omega
      have e1 : IntKind.i64.wrap ((n : Int) - 1) = ((n - 1 : Nat) : Int) := by rw [wrap_i64 (by omega) (by omega)]; omega
      have e2 : IntKind.i64.wrap ((n : Int) - 2) = ((n - 2 : Nat) : Int) := by rw [wrap_i64 (by omega) (by omega)]; omega
      rw [e1, e2]
      refine bsel_of (fun h => absurd (of_decide_eq_true h) (by omega)) (fun _ => ⟨by decide, c, rfl, bsel_of (fun h7 => ?_) (fun h7 => ?_)⟩)
      · have hc3 : c = 123 := byte_eq.1 (of_decide_eq_true h7)
        subst hc3
        rw [if_pos rfl] at hd
        have hin : ((36 :: 123 :: y : Txt).drop (Int.toNat 2)).take (Int.toNat ((n - 1 : Nat) : Int) - Int.toNat 2) = y.take (n - 3) := by
          rw [Int.toNat_natCast]
          show y.take (n - 1 - 2) = _
          rw [show n - 1 - 2 = n - 3 by omega]
        have hil : (y.take (n - 3)).length ≤ y.length := by rw [List.length_take]; omega
        simp only [List.length_cons] at hl'
        refine ⟨by decide, by omega, by omega, ?_⟩
        rw [hin]
        refine (ref_braces_of hL ih (y.take (n - 3)) q (by omega)).mono ?_
        rintro e7 w7 ⟨⟨x, vw, hsl, hm⟩, s7⟩
        obtain ⟨wp, wc, rfl⟩ := hsl.form
        have z7 := s7.size
        -- the part is told, whatever the number
        have key : ∃ k : Nat, e7 = .returned (.tuple #[pagg x (.slice wp x.w.length wc), .int .i64 (k : Int)]) ∧ (match bracesF (wpL L) q (y.take (n - 3)) with
            | .ok p => k = 0 ∧ x = p
            | .bad j => k = j) := by
          cases hb : bracesF (wpL L) q (y.take (n - 3)) with
          | ok p =>
            rw [hb] at hm
            exact ⟨0, hm.1, rfl, hm.2⟩
          | bad j =>
            rw [hb] at hm
            exact ⟨j, hm, rfl⟩
        obtain ⟨k, he, hk⟩ := key
        refine .inl ⟨x.k, x.q, x.t, x.n, x.o, wp, x.w.length, wc, (k : Int), he, boxK rfl one6 fun w9 r9 s9 z9 => ⟨x.k, x.q, x.t, x.n, x.o, wp, x.w.length, wc, r9.lget rfl, r9.lget rfl, r9.lget rfl, r9.lget rfl, r9.lget rfl, r9.lget rfl, ?_⟩⟩
        have s79 := s7.trans s9
        refine stK (r1.still s79) (by simp) one6 fun w10 r10 m10 z10 => ⟨x.k, x.q, x.t, x.n, x.o, wp, x.w.length, wc, r10.lget rfl, r10.lget rfl, r10.lget rfl, r10.lget rfl, r10.lget rfl, r10.lget rfl, ⟨x, .slice wp x.w.length wc, n, ((hsl.still s9).mod m10 fun j hj e => by omega).mono fun j hj => by omega, ?_⟩, (s1.trans s79).box (Nat.le_refl _) m10⟩
        rw [hd]
        cases hb : bracesF (wpL L) q (y.take (n - 3)) with
        | ok p =>
          rw [hb] at hk
          obtain ⟨rfl, rfl⟩ := hk
          exact ⟨rfl, rfl⟩
        | bad j =>
          rw [hb] at hk
          have hk : k = j := hk
          subst hk
          rfl
      · have hc3 : ¬ c = 123 := fun e => of_decide_eq_false h7 (byte_eq.2 e)
        rw [if_neg hc3] at hd
        refine ⟨fun w13 => w13 = w5 ∧ ¬ (4 < n ∧ (36 :: c :: y)[2]? = some 40 ∧ (36 :: c :: y)[n - 2]? = some 41), ⟨fun b w11 => w11 = w5 ∧ (b = true ↔ (4 < n ∧ (36 :: c :: y)[2]? = some 40 ∧ (36 :: c :: y)[n - 2]? = some 41)), bsel_of (fun h6 => ?_) (fun h6 => ⟨rfl, fun e => (by cases e), fun e => ?_⟩), ?_⟩, ?_⟩
        · have h6 : 4 < n := by have := of_decide_eq_true h6; omega
          obtain ⟨b1, hb1⟩ : ∃ b1, (36 :: c :: y)[2]? = some b1 := ⟨_, List.getElem?_eq_getElem (by omega)⟩
          obtain ⟨b2, hb2⟩ : ∃ b2, (36 :: c :: y)[n - 2]? = some b2 := ⟨_, List.getElem?_eq_getElem (by omega)⟩
          refine ⟨by decide, b1, hb1, bsel_of (fun h8 => ⟨by omega, b2, by rw [Int.toNat_natCast]; exact hb2, rfl, ?_⟩) (fun h8 => ⟨rfl, fun e => (by cases e), fun e => ?_⟩)⟩
          · rw [decide_eq_true_eq, byte_some hb1, byte_some hb2]
            exact ⟨fun e => ⟨h6, of_decide_eq_true h8, e⟩, fun e => e.2.2⟩
          · rw [byte_some hb1] at e
            exact absurd e.2.1 (of_decide_eq_false h8)
        · have := of_decide_eq_false h6
          omega
        · rintro b _ w11 ⟨rfl, hb⟩
          refine bsel_of (fun h8 => ?_) (fun h8 => ⟨rfl, fun e => (by rw [hb.2 e] at h8; cases h8)⟩)
          rw [if_pos (hb.1 h8)] at hd
          have h9 := (hb.1 h8).1
          have ht : ((36 :: c :: y : Txt).drop (Int.toNat 3)).take (Int.toNat ((n - 2 : Nat) : Int) - Int.toNat 3) = ((36 :: c :: y).drop 3).take (n - 5) := by
            rw [Int.toNat_natCast]
            show ((36 :: c :: y : Txt).drop 3).take (n - 2 - 3) = _
            rw [show n - 2 - 3 = n - 5 by omega]
          rw [ht]
          exact ⟨by decide, by omega, by omega, fin (.mk 3 q (((36 :: c :: y).drop 3).take (n - 5)) [] [] []) n _ r1 s1 rfl hd⟩
        · rintro _ w13 ⟨rfl, hno⟩
          rw [if_neg hno] at hd
          have ht : ((36 :: c :: y : Txt).drop (Int.toNat 2)).take (Int.toNat ((n - 1 : Nat) : Int) - Int.toNat 2) = y.take (n - 3) := by
            rw [Int.toNat_natCast]
            show y.take (n - 1 - 2) = _
            rw [show n - 1 - 2 = n - 3 by omega]
          rw [ht]
          exact ⟨by decide, by omega, by omega, fin (.mk 2 q (y.take (n - 3)) [] [] []) n _ r1 s1 rfl hd⟩
  rintro _ w15 ⟨rfl, hno⟩
  have hd0 : dollarF (wpL L) q (36 :: r) = if 0 < nameN r then .ok (.mk 1 q [] (r.take (nameN r)) [] [], nameN r + 1) else if 0 < specN r then .ok (.mk 1 q [] (r.take 1) [] [], 2) else .ok (.mk 0 q [36] [] [] [], 1) := by
    unfold dollarF
    simp only [List.drop_succ_cons, List.drop_zero]
    rw [if_neg hno]
  have hnl := nameN_le r
  have hsp1 := specN_one r
  have hspl := specN_le r
  have e1 : (36 :: r : Txt).drop (Int.toNat 1) = r := rfl
  refine ⟨by decide, by simp only [List.length_cons]; omega, ?_⟩
  rw [e1]
  refine (ref_Name_spec r (by omega)).mono ?_
  rintro _ w16 ⟨rfl, rfl⟩
  refine .inl ⟨_, rfl, fun n w19 => w19 = w16 ∧ n = ((if 0 < nameN r then nameN r else specN r : Nat) : Int), ⟨fun b w18 => w18 = w16 ∧ (b = true ↔ nameN r = 0 ∧ 0 < specN r), bsel_of (fun h => bsel_of (fun h2 => ?_) (fun h2 => ?_)) (fun h => ?_), ?_⟩, ?_⟩
  · have h : nameN r = 0 := by have := of_decide_eq_true h; omega
    have h2 : 1 < (36 :: r).length := by have := of_decide_eq_true h2; omega
    obtain ⟨c, y, rfl⟩ : ∃ c y, r = c :: y := by
      cases r with
      | nil => simp at h2
      | cons c y => exact ⟨c, y, rfl⟩
    refine ⟨by decide, c, rfl, (ref_special_spec c).mono ?_⟩
    rintro _ w17 ⟨rfl, rfl⟩
    refine .inl ⟨_, rfl, rfl, ?_⟩
    simp only [specN]
    refine ⟨fun e => ⟨h, by rw [if_pos e]; decide⟩, fun e => ?_⟩
    have := e.2
    split at this
    · assumption
    · omega
  · have h2 : ¬ 1 < (36 :: r).length := by have := of_decide_eq_false h2; omega
    have : r = [] := by
      cases r with
      | nil => rfl
      | cons c y => simp at h2
    subst this
    exact ⟨rfl, fun e => (by cases e), fun e => absurd e.2 (by decide)⟩
  · have h : ¬ nameN r = 0 := by have := of_decide_eq_false h; omega
    exact ⟨rfl, fun e => (by cases e), fun e => absurd e.1 h⟩
  · rintro b _ w18 ⟨rfl, hb⟩
    refine bsel_of (fun h => ⟨rfl, ?_⟩) (fun h => ⟨rfl, ?_⟩)
    · have hh := hb.1 h
      rw [if_neg (by omega), show specN r = 1 by omega]
      rfl
    · by_cases h0 : 0 < nameN r
      · rw [if_pos h0]
      · have : ¬ 0 < specN r := fun e => by rw [hb.2 ⟨by omega, e⟩] at h; cases h
        rw [if_neg h0]
        omega
  rintro _ _ w19 ⟨rfl, rfl⟩
  have hm1 : (if 0 < nameN r then nameN r else specN r) ≤ r.length := by split <;> omega
  have hd1 : dollarF (wpL L) q (36 :: r) = if (if 0 < nameN r then nameN r else specN r) = 0 then .ok (.mk 0 q [36] [] [] [], 1) else .ok (.mk 1 q [] (r.take (if 0 < nameN r then nameN r else specN r)) [] [], (if 0 < nameN r then nameN r else specN r) + 1) := by
    rw [hd0]
    by_cases h0 : 0 < nameN r
    · simp only [if_pos h0]
      rw [if_neg (by omega)]
    · simp only [if_neg h0]
      by_cases h6 : 0 < specN r
      · rw [if_pos h6, if_neg (by omega), show specN r = 1 by omega]
      · rw [if_neg h6, if_pos (by omega)]
  generalize (if 0 < nameN r then nameN r else specN r) = m at hm1 hd1
  refine bsel_of (fun h5 => ?_) (fun h5 => ?_)
  · have h5 : m = 0 := by have := of_decide_eq_true h5; omega
    rw [if_pos h5] at hd1
    exact fin (.mk 0 q [36] [] [] []) 1 _ r1 s1 rfl hd1
  · have h5 : ¬ m = 0 := by have := of_decide_eq_false h5; omega
    rw [if_neg h5] at hd1
    have e2 : IntKind.i64.wrap ((m : Int) + 1) = ((m + 1 : Nat) : Int) := by rw [wrap_i64 (by omega) (by omega)]; omega
    rw [e2]
    have ht : r.take (Int.toNat ((m + 1 : Nat) : Int) - Int.toNat 1) = r.take m := by
      rw [Int.toNat_natCast]
      rfl
    rw [ht]
    exact ⟨by decide, by omega, by simp only [List.length_cons]; omega, fin (.mk 1 q [] (r.take m) [] []) (m + 1) _ r1 s1 rfl hd1⟩
def RQPost (w : World) (L : Nat) (s : Txt) (e : Ending) (w' : World) : Prop := (match dblF (wpL L) s with
  | .ok l => ∃ v, e = .returned (.tuple #[v, .int .i64 0]) ∧ SlAt w' (fun k => w.heap.size ≤ k) l v
  | .bad k => e = .returned (.tuple #[.slice none 0 0, .int .i64 (k : Int)])) ∧ Still w w'
set_option maxHeartbeats 1000000 in
theorem ref_double_of {L : Nat} (hL : L ≤ 30) (ih : RPartsS L) (s : Txt) (hl : s.length < 1000000) : Calls Tryz.prog fn_ref08_double #[.string (S s), .int .i64 (30 - (L : Int))] w (RQPost w L s) := by
  refine ref08_double_calls _ _ _ _ ?_
  refine bsel_of (fun h => ?_) (fun h => ?_)
  · have h : s = [] := of_decide_eq_true h
    subst h
    refine allocK fun w1 r1 s1 z1 => ?_
    have r1 : Row w1 w.heap.size 73 ⟨pcell (tx true []) (.slice none 0 0)⟩ := r1
    refine ⟨⟨_, rfl, some ⟨w.heap.size, 0, none⟩, 1, rfl, Nat.le_refl _, fun _ => ⟨_, rfl, Nat.le_refl _, ?_⟩⟩, s1⟩
    refine PsAt.of fun i x hx => ?_
    have hi : i = 0 := by
      cases i with
      | zero => rfl
      | succ i => simp at hx
    subst hi
    obtain rfl := Option.some.inj hx
    refine PtAt.of (fun j u hu => ?_) (SlAt.nil _ _ none 0)
    rw [adds, add_row, show 0 + (0 * 6 + j) = j by omega]
    exact r1.lget hu
  have h : s ≠ [] := of_decide_eq_false h
  have hdbl : dblF (wpL L) s = loopF (dblOne (wpL L)) (s.length + 1) [] s := by unfold dblF; rw [if_neg h]
  refine ⟨fun s1 out n c w2 => ∃ acc, SlAt w2 (fun k => w.heap.size ≤ k) acc (.slice out n c) ∧ Still w w2 ∧ s1.length ≤ s.length ∧ loopF (dblOne (wpL L)) (s1.length + 1) acc s1 = loopF (dblOne (wpL L)) (s.length + 1) [] s ∧ wtL acc + 12 * s1.length ≤ 12 * s.length, fun s1 _ _ _ _ => s1.length, ⟨[], SlAt.nil _ _ _ _, Still.refl _, Nat.le_refl _, rfl, by simp [wtL]⟩, ?_⟩
  rintro s1 out n c _ w2 ⟨acc, hacc, s2, hle, hlp, hwt⟩
  obtain ⟨rfl, hcap⟩ := hacc.len
  refine bsel_of (fun hx => ?_) (fun hx => ?_)
  rotate_left
  · have hx : s1 = [] := List.eq_nil_of_length_eq_zero (by have := of_decide_eq_false hx; omega)
    subst hx
    refine ⟨?_, s2⟩
    rw [hdbl, ← hlp]
    exact ⟨_, rfl, hacc⟩
  obtain ⟨b, y, rfl⟩ : ∃ b y, s1 = b :: y := by
    cases s1 with
    | nil => exact absurd (of_decide_eq_true hx) (by decide)
    | cons b y => exact ⟨b, y, rfl⟩
  rw [loop_step (dblOne_takes _)] at hlp
  have hlc : (b :: y).length < 1000000 := by omega
  have hz := s2.size
  refine ⟨by decide, by simp only [List.length_cons]; omega, boxK rfl (by simp [Value.oneCell']) fun w4 r4 s4 z4 => ?_⟩
  have r4 : Row w4 w2.heap.size 73 ⟨pcell (tx true [b]) (.slice none 0 0)⟩ := r4
  refine ⟨fun n ex w7 => ∃ (x : Pt) (wp : Option Addr) (wc : Nat), Row w7 w2.heap.size 73 ⟨pcell x (.slice wp x.w.length wc)⟩ ∧ SlAt w7 (fun k => w2.heap.size < k) x.w (.slice wp x.w.length wc) ∧ Still w2 w7 ∧ (b = 36 → match dollarF (wpL L) true (b :: y) with
      | .ok p => ex = 0 ∧ p.1 = x ∧ n = (p.2 : Int)
      | .bad k => ex = (k : Int)) ∧ (b ≠ 36 → ex = 0 ∧ n = 1 ∧ x = tx true [b]), ⟨by decide, b, rfl, bsel_of (fun h36 => ?_) (fun h36 => ?_)⟩, ?_⟩
  · have h36 : b = 36 := byte_eq.1 (of_decide_eq_true h36)
    subst h36
    refine (ref_dollar_of hL ih y true hlc).mono ?_
    rintro e5 w5 ⟨⟨x, vw, n, hsl, hm⟩, s5⟩
    obtain ⟨wp, wc, rfl⟩ := hsl.form
    have z5 := s5.size
    have key : ∃ k : Nat, e5 = .returned (.tuple #[pagg x (.slice wp x.w.length wc), .int .i64 (n : Int), .int .i64 (k : Int)]) ∧ (match dollarF (wpL L) true (36 :: y) with
        | .ok p => k = 0 ∧ p = (x, n)
        | .bad j => k = j) := by
      cases hb : dollarF (wpL L) true (36 :: y) with
      | ok p =>
        rw [hb] at hm
        exact ⟨0, hm.1, rfl, hm.2⟩
      | bad j =>
        rw [hb] at hm
        exact ⟨j, hm, rfl⟩
    obtain ⟨k, he, hk⟩ := key
    refine .inl ⟨x.k, x.q, x.t, x.n, x.o, wp, x.w.length, wc, (n : Int), (k : Int), he, stK (r4.still s5) (by simp [pcell]) one6 fun w6 r6 m6 z6 => ⟨x, wp, wc, r6, (hsl.mod m6 fun j hj e => by omega).mono fun j hj => by omega, (s4.trans s5).box (Nat.le_refl _) m6, fun _ => ?_, fun e => absurd rfl e⟩⟩
    cases hb : dollarF (wpL L) true (36 :: y) with
    | ok p =>
      rw [hb] at hk
      obtain ⟨rfl, rfl⟩ := hk
      exact ⟨rfl, rfl, rfl⟩
    | bad j =>
      rw [hb] at hk
      have hk : k = j := hk
      subst hk
      rfl
  · have h36 : ¬ b = 36 := fun e => of_decide_eq_false h36 (byte_eq.2 e)
    exact ⟨tx true [b], none, 0, r4, SlAt.nil _ _ _ _, s4, fun e => absurd e h36, fun _ => ⟨rfl, rfl, rfl⟩⟩
  rintro n ex _ w7 ⟨x, wp, wc, r7, hsl7, s7, hx1, hx2⟩
  have z7 : w2.heap.size < w7.heap.size := r7.lt
  -- the one that is taken
  refine ⟨fun n1 w10 => ∃ (x : Pt) (wp : Option Addr) (wc : Nat), Row w10 w2.heap.size 73 ⟨pcell x (.slice wp x.w.length wc)⟩ ∧ SlAt w10 (fun k => w2.heap.size < k) x.w (.slice wp x.w.length wc) ∧ Still w2 w10 ∧ match dblOne (wpL L) (b :: y) with
      | .ok p => ex = 0 ∧ p.1 = [x] ∧ n1 = (p.2 : Int)
      | .bad k => ex = (k : Int), ⟨fun t w8 => w8 = w7 ∧ (t = true ↔ (b = 92 ∧ (y.head? = some 36 ∨ y.head? = some 96 ∨ y.head? = some 34 ∨ y.head? = some 92))), ⟨by decide, b, rfl, bsel_of (fun h92 => bsel_of (fun h1 => ?_) (fun h1 => ⟨rfl, fun e => (by cases e), fun e => ?_⟩)) (fun h92 => ⟨rfl, fun e => (by cases e), fun e => absurd e.1 fun e => of_decide_eq_false h92 (byte_eq.2 e)⟩)⟩, ?_⟩, ?_⟩
  · have h92 : b = 92 := byte_eq.1 (of_decide_eq_true h92)
    have h1 : 1 < (b :: y).length := by have := of_decide_eq_true h1; omega
    obtain ⟨a, z, rfl⟩ : ∃ a z, y = a :: z := by
      cases y with
      | nil => simp at h1
      | cons a z => exact ⟨a, z, rfl⟩
    have ba : ∀ k : UInt8, decide ((a.toNat : Int) = (k.toNat : Int)) = true ↔ (a :: z : Txt).head? = some k := by
      intro k
      rw [decide_eq_true_eq, List.head?_cons, Option.some.injEq]
      exact byte_eq
    have na : ∀ k : UInt8, decide ((a.toNat : Int) = (k.toNat : Int)) = false → ¬ (a :: z : Txt).head? = some k := by
      intro k hk e
      rw [(ba k).2 e] at hk
      cases hk
    refine ⟨by decide, a, rfl, bsel_of (fun g1 => ⟨rfl, fun _ => ⟨h92, .inl ((ba 36).1 g1)⟩, fun _ => rfl⟩) (fun g1 => ⟨by decide, a, rfl, bsel_of (fun g2 => ⟨rfl, fun _ => ⟨h92, .inr (.inl ((ba 96).1 g2))⟩, fun _ => rfl⟩) (fun g2 => ⟨by decide, a, rfl, bsel_of (fun g3 => ⟨rfl, fun _ => ⟨h92, .inr (.inr (.inl ((ba 34).1 g3)))⟩, fun _ => rfl⟩) (fun g3 => ⟨by decide, a, rfl, rfl, fun e => ⟨h92, .inr (.inr (.inr ((ba 92).1 e)))⟩, fun e => (ba 92).2 (((e.2.resolve_left (na 36 g1)).resolve_left (na 96 g2)).resolve_left (na 34 g3))⟩)⟩)⟩)⟩
  · have h1 : ¬ 1 < (b :: y).length := by have := of_decide_eq_false h1; omega
    have : y = [] := by
      cases y with
      | nil => rfl
      | cons c y => simp at h1
    subst this
    rcases e.2 with e | e | e | e <;> cases e
  · rintro t _ w8 ⟨rfl, ht⟩
    refine bsel_of (fun g => ?_) (fun g => ?_)
    · have hh := ht.1 g
      have h36 : b ≠ 36 := by rw [hh.1]; decide
      obtain ⟨a, z, rfl⟩ : ∃ a z, y = a :: z := by
        cases y with
        | nil => rcases hh.2 with e | e | e | e <;> cases e
        | cons a z => exact ⟨a, z, rfl⟩
      refine ⟨by decide, by decide, by simp only [List.length_cons]; omega, stK r7 (by simp [pcell]) (by simp [Value.oneCell']) fun w9 r9 m9 z9 => ⟨tx true [a], none, 0, r9, SlAt.nil _ _ _ _, s7.box (Nat.le_refl _) m9, ?_⟩⟩
      simp only [dblOne]
      rw [if_neg h36, if_pos hh]
      exact ⟨(hx2 h36).1, rfl, rfl⟩
    · refine ⟨x, wp, wc, r7, hsl7, s7, ?_⟩
      simp only [dblOne]
      by_cases h36 : b = 36
      · rw [if_pos h36]
        have := hx1 h36
        cases hb : dollarF (wpL L) true (b :: y) with
        | ok p =>
          rw [hb] at this
          exact ⟨this.1, by rw [this.2.1], this.2.2⟩
        | bad j =>
          rw [hb] at this
          exact this
      · rw [if_neg h36, if_neg fun e => by rw [ht.2 e] at g; cases g]
        obtain ⟨e1, e2, e3⟩ := hx2 h36
        exact ⟨e1, by rw [e3], e2⟩
  rintro n1 _ w10 ⟨x, wp, wc, r10, hsl10, s10, hx⟩
  cases ho : dblOne (wpL L) (b :: y) with
  | bad k =>
    rw [ho] at hx hlp
    have hk : k ≠ 0 := fun e => dblOne_nz (wpL_nz L) b y (by rw [ho, e])
    have hx : ex = (k : Int) := hx
    subst hx
    refine bsel_of (fun _ => ⟨?_, s2.trans s10⟩) (fun hh => absurd (nf hh) (by omega))
    rw [hdbl, ← hlp]
    rfl
  | ok p =>
    rw [ho] at hx hlp
    obtain ⟨rfl, hp1, rfl⟩ := hx
    have hbe := dblOne_bears (wpL_wt L) _ _ ho
    have hta := dblOne_takes _ _ _ ho
    rw [hp1, wtL_one] at hbe
    have hs12 := s2.trans s10
    have z10 : w2.heap.size < w10.heap.size := r10.lt
    refine bsel_of (fun hh => absurd rfl (nt hh)) (fun _ => ⟨_, _, _, _, _, _, _, _, r10.lget rfl, r10.lget rfl, r10.lget rfl, r10.lget rfl, r10.lget rfl, r10.lget rfl, (ref_Add_spec (x := x) (N := w.heap.size) (hacc.still s10) (by omega) (hsl10.mono fun k hk => by omega) (by omega)).mono ?_⟩)
    rintro _ w11 ⟨v11, rfl, hsl11, s11⟩
    obtain ⟨p11, c11, rfl⟩ := hsl11.form
    have hdl : ((b :: y).drop p.2).length = (b :: y).length - p.2 := List.length_drop
    have hwa := wt_add acc x
    refine .inl ⟨_, _, _, rfl, by omega, by omega, ?_⟩
    rw [Int.toNat_natCast]
    refine ⟨⟨addP acc x, hsl11, hs12.trans s11, by omega, ?_, by omega⟩, by dsimp only; omega⟩
    simp only [Rs.and, hp1, List.foldl_cons, List.foldl_nil] at hlp
    exact hlp
set_option maxHeartbeats 1000000 in
theorem ref_parts_of {L : Nat} (hL : L ≤ 30) (ih : RPartsS L) (s : Txt) (hl : s.length < 1000000) : Calls Tryz.prog fn_ref08_parts #[.string (S s), .int .i64 (30 - (L : Int))] w (RPost w s (L + 1)) := by
  refine ref08_parts_calls _ _ _ _ ?_
  refine bsel_of (fun h => absurd (of_decide_eq_true h) (by omega)) (fun _ => ?_)
  have hwp : wpL (L + 1) s = loopF (outOne (wpL L)) (s.length + 1) [] s := rfl
  refine ⟨fun s1 out n c w2 => ∃ acc, SlAt w2 (fun k => w.heap.size ≤ k) acc (.slice out n c) ∧ Still w w2 ∧ s1.length ≤ s.length ∧ loopF (outOne (wpL L)) (s1.length + 1) acc s1 = loopF (outOne (wpL L)) (s.length + 1) [] s ∧ wtL acc + 12 * s1.length ≤ 12 * s.length, fun s1 _ _ _ _ => s1.length, ⟨[], SlAt.nil _ _ _ _, Still.refl _, Nat.le_refl _, rfl, by simp [wtL]⟩, ?_⟩
  rintro s1 out n c _ w2 ⟨acc, hacc, s2, hle, hlp, hwt⟩
  obtain ⟨rfl, hcap⟩ := hacc.len
  refine bsel_of (fun hx => ?_) (fun hx => ?_)
  rotate_left
  · have hx : s1 = [] := List.eq_nil_of_length_eq_zero (by have := of_decide_eq_false hx; omega)
    subst hx
    refine ⟨?_, s2⟩
    rw [hwp, ← hlp]
    exact ⟨_, rfl, hacc⟩
  obtain ⟨b, y, rfl⟩ : ∃ b y, s1 = b :: y := by
    cases s1 with
    | nil => exact absurd (of_decide_eq_true hx) (by decide)
    | cons b y => exact ⟨b, y, rfl⟩
  rw [loop_step (outOne_takes _)] at hlp
  have hlc : (b :: y).length < 1000000 := by omega
  have hz := s2.size
  refine ⟨by decide, by simp only [List.length_cons]; omega, boxK rfl (by simp [Value.oneCell']) fun w4 r4 s4 z4 => ?_⟩
  have r4 : Row w4 w2.heap.size 73 ⟨pcell (tx false [b]) (.slice none 0 0)⟩ := r4
  refine ⟨fun n ex w7 => ∃ (x : Pt) (wp : Option Addr) (wc : Nat), Row w7 w2.heap.size 73 ⟨pcell x (.slice wp x.w.length wc)⟩ ∧ SlAt w7 (fun k => w2.heap.size < k) x.w (.slice wp x.w.length wc) ∧ Still w2 w7 ∧ (b ≠ 34 → match outOne (wpL L) (b :: y) with
      | .ok p => ex = 0 ∧ p.1 = [x] ∧ n = (p.2 : Int)
      | .bad k => ex = (k : Int)) ∧ (b = 34 → ex = 0 ∧ ∃ m : Nat, n = (m : Int) ∧ m ≤ (b :: y).length ∧ x.t.length + 2 ≤ m ∧ outOne (wpL L) (b :: y) = (dblF (wpL L) x.t).and fun l => .ok (l, m)), ⟨by decide, b, rfl, fun t w4' => w4' = w4 ∧ (t = true ↔ (b = 92 ∨ b = 39 ∨ b = 34)), bsel_of (fun g => ⟨rfl, fun _ => .inl (byte_eq.1 (of_decide_eq_true g)), fun _ => g⟩) (fun g => bsel_of (fun g2 => ⟨rfl, fun _ => .inr (.inl (byte_eq.1 (of_decide_eq_true g2))), fun _ => g2⟩) (fun g2 => ⟨rfl, fun e => .inr (.inr (byte_eq.1 (of_decide_eq_true e))), fun e => decide_eq_true (byte_eq.2 ((e.resolve_left fun e => of_decide_eq_false g (byte_eq.2 e)).resolve_left fun e => of_decide_eq_false g2 (byte_eq.2 e)))⟩)), ?_⟩, ?_⟩
  · rintro t _ w4' ⟨rfl, ht⟩
    refine bsel_of (fun g => ?_) (fun g => bsel_of (fun h36 => ?_) (fun h36 => ?_))
    · have hb := ht.1 g
      have h36 : ¬ b = 36 := by rcases hb with rfl | rfl | rfl <;> decide
      have hout : outOne (wpL L) (b :: y) = (match unitD 30 (b :: y) with
          | none => .bad 90
          | some t =>
            if b = 92 then .ok ([tx true (y.take 1)], 2)
            else if b = 34 then (dblF (wpL L) (y.take (y.length - t.length - 1))).and fun l => .ok (l, y.length + 1 - t.length)
            else .ok ([tx true (y.take (y.length - t.length - 1))], y.length + 1 - t.length)) := by
        simp only [outOne]
        rw [if_neg h36, if_pos hb]
        cases unitD 30 (b :: y) <;> rfl
      refine (ref_skip_spec (b :: y) 0 (by simp) hlc).mono ?_
      rintro _ w5 ⟨rfl, rfl⟩
      rw [List.drop_zero]
      refine .inl ⟨_, rfl, ?_⟩
      cases hu : unitD 30 (b :: y) with
      | none =>
        rw [hu] at hout
        have hout : outOne (wpL L) (b :: y) = .bad 90 := hout
        refine bsel_of (fun _ => ⟨?_, s2.trans s4⟩) (fun h => absurd (show (-1 : Int) < 0 by decide) (of_decide_eq_false h))
        rw [hout] at hlp
        rw [hwp, ← hlp]
        rfl
      | some t =>
        obtain ⟨h1, h2, h3⟩ := unitN_pos hu
        rw [hu] at hout
        dsimp only at hout
        have hix : ix (b :: y) (some t) = (unitN (b :: y) : Int) := by rw [h1]; rfl
        rw [hix]
        generalize unitN (b :: y) = n at h1 h2 h3 ⊢
        simp only [List.length_cons] at h1 h3
        have hlc' : y.length + 1 < 1000000 := hlc
        have h92 : b = 92 → ∃ a, y = a :: t := by
          rintro rfl
          cases y with
          | nil => cases hu
          | cons a z =>
            have : some z = some t := hu
            injection this with this
            exact ⟨a, by rw [this]⟩
        have h5 : 2 ≤ n := by
          rcases Decidable.em (b = 92) with e | e
          · obtain ⟨a, rfl⟩ := h92 e
            simp only [List.length_cons] at h1
            omega
          · have := quote_len (hb.resolve_left e) hu
            omega
        have e1 : IntKind.i64.wrap ((n : Int) - 1) = ((n - 1 : Nat) : Int) := by rw [wrap_i64 (by omega) (by omega)]; omega
        rw [e1]
        have hin : (((b :: y : Txt).drop (Int.toNat 1)).take (Int.toNat ((n - 1 : Nat) : Int) - Int.toNat 1)) = y.take (n - 2) := by
          rw [Int.toNat_natCast]
          show y.take (n - 1 - 1) = _
          congr 1
        have e2 : y.length + 1 - t.length = n := by omega
        have e3 : y.length - t.length - 1 = n - 2 := by omega
        rw [e2, e3] at hout
        rw [hin]
        refine bsel_of (fun h => absurd (of_decide_eq_true h) (by omega)) (fun _ => ⟨by decide, by omega, by simp only [List.length_cons]; omega, stK r4 (by simp [pcell]) (by simp [Value.oneCell']) fun w6 r6 m6 z6 => ?_⟩)
        have r6 : Row w6 w2.heap.size 73 ⟨pcell (tx true (y.take (n - 2))) (.slice none 0 0)⟩ := r6
        have s6 := s4.box (Nat.le_refl _) m6
        refine ⟨by decide, b, rfl, bsel_of (fun g2 => ?_) (fun g2 => ?_)⟩
        · have g2 : b = 92 := byte_eq.1 (of_decide_eq_true g2)
          obtain ⟨a, rfl⟩ := h92 g2
          rw [if_pos g2] at hout
          simp only [List.length_cons] at h1
          refine ⟨by decide, by decide, by simp only [List.length_cons]; omega, stK r6 (by simp [pcell]) (by simp [Value.oneCell']) fun w7 r7 m7 z7 => ⟨tx true [a], none, 0, r7, SlAt.nil _ _ _ _, s6.box (Nat.le_refl _) m7, fun _ => ?_, fun e => ?_⟩⟩
          · rw [hout]
            exact ⟨rfl, rfl, by dsimp only; omega⟩
          · rw [g2] at e
            exact absurd e (by decide)
        · have g2 : ¬ b = 92 := fun e => of_decide_eq_false g2 (byte_eq.2 e)
          rw [if_neg g2] at hout
          refine ⟨tx true (y.take (n - 2)), none, 0, r6, SlAt.nil _ _ _ _, s6, fun e => ?_, fun e => ?_⟩
          · rw [if_neg e] at hout
            rw [hout]
            exact ⟨rfl, rfl, rfl⟩
          · rw [if_pos e] at hout
            refine ⟨rfl, n, rfl, by simp only [List.length_cons]; omega, ?_, hout⟩
            show (y.take (n - 2)).length + 2 ≤ n
            rw [List.length_take]
            omega
    · have h36 : b = 36 := byte_eq.1 (of_decide_eq_true h36)
      subst h36
      refine (ref_dollar_of hL ih y false hlc).mono ?_
      rintro e5 w5 ⟨⟨x, vw, n, hsl, hm⟩, s5⟩
      obtain ⟨wp, wc, rfl⟩ := hsl.form
      have z5 := s5.size
      have key : ∃ k : Nat, e5 = .returned (.tuple #[pagg x (.slice wp x.w.length wc), .int .i64 (n : Int), .int .i64 (k : Int)]) ∧ (match dollarF (wpL L) false (36 :: y) with
          | .ok p => k = 0 ∧ p = (x, n)
          | .bad j => k = j) := by
        cases hb : dollarF (wpL L) false (36 :: y) with
        | ok p =>
          rw [hb] at hm
          exact ⟨0, hm.1, rfl, hm.2⟩
        | bad j =>
          rw [hb] at hm
          exact ⟨j, hm, rfl⟩
      obtain ⟨k, he, hk⟩ := key
      refine .inl ⟨x.k, x.q, x.t, x.n, x.o, wp, x.w.length, wc, (n : Int), (k : Int), he, stK (r4.still s5) (by simp [pcell]) one6 fun w6 r6 m6 z6 => ⟨x, wp, wc, r6, (hsl.mod m6 fun j hj e => by omega).mono fun j hj => by omega, (s4.trans s5).box (Nat.le_refl _) m6, fun _ => ?_, fun e => absurd e (by decide)⟩⟩
      have hout : outOne (wpL L) (36 :: y) = (dollarF (wpL L) false (36 :: y)).and fun x => .ok ([x.1], x.2) := by simp only [outOne, if_true]
      rw [hout]
      cases hb : dollarF (wpL L) false (36 :: y) with
      | ok p =>
        rw [hb] at hk
        obtain ⟨rfl, rfl⟩ := hk
        exact ⟨rfl, rfl, rfl⟩
      | bad j =>
        rw [hb] at hk
        have hk : k = j := hk
        subst hk
        rfl
    · have h36 : ¬ b = 36 := fun e => of_decide_eq_false h36 (byte_eq.2 e)
      have hno : ¬ (b = 92 ∨ b = 39 ∨ b = 34) := fun e => by rw [ht.2 e] at g; cases g
      refine ⟨tx false [b], none, 0, r4, SlAt.nil _ _ _ _, s4, fun _ => ?_, fun e => absurd (.inr (.inr e)) hno⟩
      have hout : outOne (wpL L) (b :: y) = .ok ([tx false [b]], 1) := by
        simp only [outOne]
        rw [if_neg h36, if_neg hno]
      rw [hout]
      exact ⟨rfl, rfl, rfl⟩
  rintro n ex _ w10 ⟨x, wp, wc, r10, hsl10, s10, hx1, hx2⟩
  have z10 : w2.heap.size < w10.heap.size := r10.lt
  have s210 := s2.trans s10
  -- an error
  have err : ∀ (k : Nat) (w9 : World), outOne (wpL L) (b :: y) = .bad k → Still w w9 → RPost w s (L + 1) (.returned (.tuple #[.slice none 0 0, .int .i64 (k : Int)])) w9 := by
    intro k w9 ho s9
    refine ⟨?_, s9⟩
    rw [ho] at hlp
    rw [hwp, ← hlp]
    rfl
  by_cases h34 : b = 34
  · obtain ⟨rfl, m, rfl, hml, hxt, hout⟩ := hx2 h34
    rw [hout] at hlp
    refine bsel_of (fun hh => absurd rfl (nt hh)) (fun _ => ⟨by decide, b, rfl, bsel_of (fun hh => absurd (byte_eq.2 h34) (nt hh)) (fun _ => ⟨_, r10.lget rfl, (ref_double_of hL ih x.t (by omega)).mono ?_⟩)⟩)
    rintro e12 w12 ⟨hq, s12⟩
    cases hd : dblF (wpL L) x.t with
    | bad k =>
      rw [hd] at hq
      have hk : k ≠ 0 := fun e => dblF_nz (wpL_nz L) x.t (by rw [hd, e])
      refine .inl ⟨_, _, _, _, hq, bsel_of (fun _ => err k _ (by rw [hout, hd]; rfl) (s210.trans s12)) (fun hh => absurd (nf hh) (by omega))⟩
    | ok l =>
      rw [hd] at hq hlp
      obtain ⟨v, rfl, hsl⟩ := hq
      obtain ⟨p12, c12, rfl⟩ := hsl.form
      have hlw := dblF_wt (wpL_wt L) hd
      have hln := wtL_len l
      have zz := s210.size
      refine .inl ⟨_, _, _, _, rfl, bsel_of (fun hh => absurd rfl (nt hh)) (fun _ => ?_)⟩
      refine ⟨fun out1 n1 c1 i w13 => ∃ k : Nat, i = (k : Int) ∧ k ≤ l.length ∧ SlAt w13 (fun j => w.heap.size ≤ j) ((l.take k).foldl addP acc) (.slice out1 n1 c1) ∧ SlAt w13 (fun j => w.heap.size ≤ j) l (.slice p12 l.length c12) ∧ Still w w13, fun _ _ _ i _ => l.length - i.toNat, ⟨0, rfl, Nat.zero_le _, hacc.still (s10.trans s12), hsl.mono fun k hk => by omega, s210.trans s12⟩, ?_⟩
      rintro out1 n1 c1 _ _ w13 ⟨k, rfl, hk, hacc13, hsl13, s13⟩
      obtain ⟨rfl, _⟩ := hacc13.len
      refine bsel_of (fun hx => ?_) (fun hx => ?_)
      · have hx : k < l.length := by have := of_decide_eq_true hx; omega
        obtain ⟨a, wp1, wc1, rfl, c0, c1, c2, c3, c4, c5, hsw⟩ := hsl13.fields hx
        have hwf := wt_fold (l.take k) acc
        have hwk := wt_take hx
        rw [Int.toNat_natCast]
        refine ⟨by omega, by omega, _, _, _, _, _, _, _, _, c0, c1, c2, c3, c4, c5, (ref_Add_spec (x := l[k]) (N := w.heap.size) hacc13 s13.size hsw (by omega)).mono ?_⟩
        rintro _ w14 ⟨v14, rfl, hsl14, s14⟩
        obtain ⟨p14, c14, rfl⟩ := hsl14.form
        have e1 : IntKind.i64.wrap ((k : Int) + 1) = ((k + 1 : Nat) : Int) := by rw [wrap_i64 (by omega) (by omega)]; omega
        rw [e1]
        refine .inl ⟨_, _, _, rfl, ⟨k + 1, rfl, hx, ?_, hsl13.still s14, s13.trans s14⟩, by dsimp only; omega⟩
        rw [fold_take hx]
        exact hsl14
      · have hx : k = l.length := by have := of_decide_eq_false hx; omega
        subst hx
        rw [List.take_length] at hacc13
        have hdl : ((b :: y).drop m).length = (b :: y).length - m := List.length_drop
        have hwf := wt_fold l acc
        refine ⟨by omega, by omega, ?_⟩
        rw [Int.toNat_natCast]
        simp only [Rs.and] at hlp
        exact ⟨⟨l.foldl addP acc, by rw [List.take_length]; exact hacc13, s13, by omega, hlp, by omega⟩, by dsimp only; omega⟩
  · have hx := hx1 h34
    cases ho : outOne (wpL L) (b :: y) with
    | bad k =>
      rw [ho] at hx
      have hk : k ≠ 0 := fun e => outOne_nz (wpL_nz L) b y (by rw [ho, e])
      have hx : ex = (k : Int) := hx
      subst hx
      exact bsel_of (fun _ => err k _ ho s210) (fun hh => absurd (nf hh) (by omega))
    | ok p =>
      rw [ho] at hx hlp
      obtain ⟨rfl, hp1, rfl⟩ := hx
      have hbe := outOne_bears (wpL_wt L) _ _ ho
      have hta := outOne_takes _ _ _ ho
      rw [hp1, wtL_one] at hbe
      refine bsel_of (fun hh => absurd rfl (nt hh)) (fun _ => ⟨by decide, b, rfl, bsel_of (fun _ => ⟨_, _, _, _, _, _, _, _, r10.lget rfl, r10.lget rfl, r10.lget rfl, r10.lget rfl, r10.lget rfl, r10.lget rfl, (ref_Add_spec (x := x) (N := w.heap.size) (hacc.still s10) (by omega) (hsl10.mono fun k hk => by omega) (by omega)).mono ?_⟩) (fun hh => absurd (byte_eq.1 (nf hh)) h34)⟩)
      rintro _ w11 ⟨v11, rfl, hsl11, s11⟩
      obtain ⟨p11, c11, rfl⟩ := hsl11.form
      have hdl : ((b :: y).drop p.2).length = (b :: y).length - p.2 := List.length_drop
      have hwa := wt_add acc x
      refine .inl ⟨_, _, _, rfl, by omega, by omega, ?_⟩
      rw [Int.toNat_natCast]
      simp only [Rs.and, hp1, List.foldl_cons, List.foldl_nil] at hlp
      exact ⟨⟨addP acc x, hsl11, s210.trans s11, by omega, hlp, by omega⟩, by dsimp only; omega⟩
theorem ref_parts_lv : ∀ L, L ≤ 31 → RPartsS L
  | 0, _ => by
    intro w s hs
    refine ref08_parts_calls _ _ _ _ ?_
    exact bsel_of (fun _ => ⟨rfl, Still.refl _⟩) (fun h => absurd (of_decide_eq_false h) (by decide))
  | L + 1, hL => by
    intro w s hs
    have e1 : (31 : Int) - ((L + 1 : Nat) : Int) = 30 - (L : Int) := by omega
    rw [e1]
    exact ref_parts_of (by omega) (ref_parts_lv L (by omega)) s hs
theorem ref_Parse_spec (s : Txt) (hs : s.length < 1000000) : Calls Tryz.prog fn_ref08_Parse #[.string (S s)] w (RPost w s 30) := by
  refine ref08_Parse_calls _ _ _ ?_
  refine (ref_parts_lv 30 (by decide) w s hs).mono ?_
  rintro e w1 h
  unfold RPost at h ⊢
  obtain ⟨h, s1⟩ := h
  cases hw : wpL 30 s with
  | bad k =>
    rw [hw] at h
    exact .inl ⟨_, _, _, _, h, rfl, s1⟩
  | ok l =>
    rw [hw] at h
    obtain ⟨v, rfl, hsl⟩ := h
    obtain ⟨p, c, rfl⟩ := hsl.form
    exact .inl ⟨_, _, _, _, rfl, ⟨_, rfl, hsl⟩, s1⟩
theorem ref_ends_spec (c : UInt8) : Calls Tryz.prog fn_ref07_ends #[.int .u8 (c.toNat : Int)] w (fun e w' => e = .returned (.bool (isEnd c)) ∧ w' = w) := by
  refine ref07_ends_calls _ _ _ ?_
  have hb : ∀ k : UInt8, decide ((c.toNat : Int) = (k.toNat : Int)) = (c == k) := by
    intro k
    rw [Bool.eq_iff_iff, decide_eq_true_iff, beq_iff_eq]
    exact byte_eq
  have h1 := hb 32
  have h2 := hb 9
  have h3 := hb 10
  have h4 := hb 59
  have h5 := hb 124
  have h6 := hb 38
  have h7 := hb 40
  have h8 := hb 41
  have h9 := hb 60
  have h10 := hb 62
  refine ⟨fun x w1 => x = isEnd c ∧ w1 = w, ?_, ?_⟩
  · have k1 : decide ((c.toNat : Int) = 32) = (c == 32) := h1
    have k2 : decide ((c.toNat : Int) = 9) = (c == 9) := h2
    have k3 : decide ((c.toNat : Int) = 10) = (c == 10) := h3
    have k4 : decide ((c.toNat : Int) = 59) = (c == 59) := h4
    have k5 : decide ((c.toNat : Int) = 124) = (c == 124) := h5
    have k6 : decide ((c.toNat : Int) = 38) = (c == 38) := h6
    have k7 : decide ((c.toNat : Int) = 40) = (c == 40) := h7
    have k8 : decide ((c.toNat : Int) = 41) = (c == 41) := h8
    have k9 : decide ((c.toNat : Int) = 60) = (c == 60) := h9
    have k10 : decide ((c.toNat : Int) = 62) = (c == 62) := h10
    rw [k1, k2, k3, k4, k5, k6, k7, k8, k9, k10]
    unfold isEnd
    refine bsel_of (fun h => ⟨by rw [h]; rfl, rfl⟩) (fun g1 => bsel_of (fun h => ⟨by rw [h]; simp, rfl⟩) (fun g2 => bsel_of (fun h => ⟨by rw [h]; simp, rfl⟩) (fun g3 => bsel_of (fun h => ⟨by rw [h]; simp, rfl⟩) (fun g4 => bsel_of (fun h => ⟨by rw [h]; simp, rfl⟩) (fun g5 => bsel_of (fun h => ⟨by rw [h]; simp, rfl⟩) (fun g6 => bsel_of (fun h => ⟨by rw [h]; simp, rfl⟩) (fun g7 => bsel_of (fun h => ⟨by rw [h]; simp, rfl⟩) (fun g8 => bsel_of (fun h => ⟨by rw [h]; simp, rfl⟩) (fun g9 => ⟨?_, rfl⟩)))))))))
    rw [g1, g2, g3, g4, g5, g6, g7, g8, g9]
    rfl
  · rintro x _ w1 ⟨rfl, rfl⟩
    exact bsel_of (fun h => ⟨by rw [h], rfl⟩) (fun h => ⟨by rw [h], rfl⟩)
def signL : List Txt := [[38, 38], [124, 124], [59, 59], [62, 62], [59], [124], [38], [40], [41], [60], [62]]
theorem ref_sign_spec (s : Txt) (n : Nat) (hn : n ≤ s.length) (hs : s.length < 1000000) : Calls Tryz.prog fn_ref07_sign #[.string (S s), .int .i64 (n : Int)] w
    (fun e w' => e = .returned (.string (S ((signL.find? fun t => pf t (s.drop n)).getD []))) ∧ Still w w') := by
  refine ref07_sign_calls _ _ _ _ ?_
  have hr : Row (w.alloc (.cells ⟨strs signL⟩ 9)) w.heap.size 9 ⟨strs signL⟩ := Row.new _ _ _
  have hm : Still w (w.alloc (.cells ⟨strs signL⟩ 9)) := (Mod.refl _ _).alloc _
  refine ⟨fun i w1 => ∃ k : Nat, i = (k : Int) ∧ k ≤ 11 ∧ (signL.drop k).find? (fun t => pf t (s.drop n)) = signL.find? (fun t => pf t (s.drop n)) ∧ Row w1 w.heap.size 9 ⟨strs signL⟩ ∧ Still w w1, fun i _ => 11 - i.toNat, ⟨0, rfl, by omega, rfl, hr, hm⟩, ?_⟩
  rintro _ _ w1 ⟨k, rfl, hk, hf, hr1, hm1⟩
  rw [← hf]
  refine bsel_of (fun hx => ?_) (fun hx => ?_)
  · have hx : k < 11 := by have := of_decide_eq_true hx; omega
    have hxl : k < signL.length := hx
    have e1 : IntKind.i64.wrap ((k : Int) + 1) = ((k + 1 : Nat) : Int) := by rw [wrap_i64 (by omega) (by omega)]; omega
    have hc : w1.cell? ((Addr.mk w.heap.size 0 none).add (Int.toNat (k : Int) * 1)) = some (.string (S signL[k])) := by
      rw [Int.toNat_natCast, Nat.mul_one, add_row, Nat.zero_add]
      refine hr1.cellv ?_
      simp [strs, hxl]
    have hl : ∀ t ∈ signL, t.length < 1000000 := by decide
    refine ⟨by omega, by omega, _, hc, (begins_spec s signL[k] n hn hs (hl _ (List.getElem_mem hxl))).mono ?_⟩
    rintro _ w2 ⟨rfl, rfl⟩
    rw [find_step hxl]
    refine .inl ⟨_, rfl, bsel_of (fun h => ⟨by omega, by omega, _, hc, ?_, hm1⟩) (fun h => ?_)⟩
    · rw [if_pos h]
      rfl
    · rw [e1]
      refine ⟨⟨k + 1, rfl, hx, ?_, hr1, hm1⟩, by dsimp only; omega⟩
      rw [if_neg (by rw [h]; decide)]
  · have hx : k = 11 := by have := of_decide_eq_false hx; omega
    subst hx
    exact ⟨rfl, hm1⟩
theorem pfr_one (x a : UInt8) (r : Txt) : pf [x] (a :: r) = (a == x) := by
  unfold pf
  rw [Bool.eq_iff_iff, decide_eq_true_iff, beq_iff_eq]
  simp
theorem pfr_pair (x y a b : UInt8) (r : Txt) : pf [x, y] (a :: b :: r) = (a == x && b == y) := by
  unfold pf
  rw [Bool.eq_iff_iff, decide_eq_true_iff, Bool.and_eq_true, beq_iff_eq, beq_iff_eq]
  simp
theorem pfr_short (x y a : UInt8) : pf [x, y] [a] = false := rfl
theorem sign_is {a : UInt8} {r : Txt} (h1 : isEnd a = true) (h2 : a ≠ 32) (h3 : a ≠ 9) (h4 : a ≠ 10) : (signL.find? fun t => pf t (a :: r)).getD [] = (a :: r).take (opLen (a :: r)) := by
  simp only [isEnd, Bool.or_eq_true, beq_iff_eq] at h1
  cases r with
  | nil =>
    simp only [signL, List.find?_cons, pfr_one, pfr_short]
    rcases h1 with ((((((((h | h) | h) | h) | h) | h) | h) | h) | h) | h <;> subst h <;> first | exact absurd rfl h2 | exact absurd rfl h3 | exact absurd rfl h4 | rfl
  | cons b t =>
    have hopn : opLen (a :: b :: t) = if a = b ∧ ([38, 124, 59, 62] : Txt).contains a = true then 2 else 1 := rfl
    rw [hopn]
    simp only [signL, List.find?_cons, pfr_one, pfr_pair]
    by_cases hb : a = b
    · subst hb
      rcases h1 with ((((((((h | h) | h) | h) | h) | h) | h) | h) | h) | h <;> subst h <;> first | exact absurd rfl h2 | exact absurd rfl h3 | exact absurd rfl h4 | rfl
    · rw [if_neg (fun h => hb h.1)]
      have hb' : ∀ k, a = k → (b == k) = false := by
        intro k hk
        subst hk
        rw [beq_eq_false_iff_ne]
        exact fun e => hb e.symm
      rcases h1 with ((((((((h | h) | h) | h) | h) | h) | h) | h) | h) | h <;> first | exact absurd h h2 | exact absurd h h3 | exact absurd h h4 | (have hk := hb' _ h; subst h; simp [hk])
theorem endsB_drop {s : Txt} {n : Nat} (h : n < s.length) : endsB (s.drop n) = isEnd s[n] := by
  rw [List.drop_eq_getElem_cons h]
  rfl
structure RS (w w1 : World) (s : Txt) (n : Nat) (acc : List Tok) (p : Option Addr) (C : Nat) : Prop where
  at' : n ≤ s.length
  li : Owns w1 w.heap.size 64 2 (.slice p acc.length C) acc.length (tc acc)
  still : Still w w1
  all : (toks (s.drop n)).map (acc ++ ·) = toks s
  few : acc.length + (s.length - n) ≤ s.length
theorem RS.quiet {w1 : World} {s t : Txt} {n m : Nat} {acc : List Tok} {p : Option Addr} {C : Nat} (h : RS w w1 s n acc p C) (hn : n < s.length) (hm : n < m) (hm2 : m ≤ s.length) (hone : tokOne s[n] (s.drop (n + 1)) = some ([], t)) (ht : t = s.drop m) : RS w w1 s m acc p C := by
  have hall := h.all
  have := h.few
  rw [List.drop_eq_getElem_cons hn, toks_cons, hone] at hall
  refine ⟨hm2, h.li, h.still, ?_, by omega⟩
  rw [← ht]
  simpa using hall
theorem RS.told {w1 w3 : World} {s t : Txt} {n m k : Nat} {acc : List Tok} {p p3 : Option Addr} {C C3 : Nat} {x : Txt} (h : RS w w1 s n acc p C) (hn : n < s.length) (hm : n < m) (hm2 : m ≤ s.length) (hone : tokOne s[n] (s.drop (n + 1)) = some ([(k, x)], t)) (ht : t = s.drop m)
    (ho3 : Owns w3 0 64 2 (Value.slice p3 (acc.length + 1) C3) (acc.length + 1) (tc acc ++ [.int .i64 (k : Int), .string (S x)])) {o : Obj} (hg : (w1.alloc o).grownBy w3 (Value.ownBlock (Value.slice p acc.length C)))
    (hb : Blk p p3 (acc.length + 1) C C3 (w1.alloc o).heap.size) : RS w w3 s m (acc ++ [(k, x)]) p3 C3 := by
  have hall := h.all
  have hfew := h.few
  rw [List.drop_eq_getElem_cons hn, toks_cons, hone] at hall
  have ho3' := h.li.pushed h.still.size ho3 hb
  have hl : (acc ++ [(k, x)]).length = acc.length + 1 := by simp
  refine ⟨hm2, ?_, h.still.pushed h.li (Nat.le_refl _) hg, ?_, by omega⟩
  · rw [hl, tc_append]
    exact ho3'
  · rw [← hall, ← ht]
    show _ = Option.map _ (Option.map _ (toks t))
    cases toks t <;> simp
set_option maxHeartbeats 2000000 in
theorem ref_tokens_spec (s : Txt) : Calls Tryz.prog fn_ref07_Tokens #[.string (S s)] w
    (fun e w' => ∃ p C, e = .returned (.tuple #[.slice p (tokRes s).1.length C, .int .i64 (tokRes s).2]) ∧ Owns w' w.heap.size 64 2 (.slice p (tokRes s).1.length C) (tokRes s).1.length (tc (tokRes s).1) ∧ Still w w') := by
  refine ref07_Tokens_calls _ _ _ ?_
  refine bsel_of (fun h20 => ?_) (fun h20 => ?_)
  · have h20 := of_decide_eq_true h20
    have hres : tokRes s = ([], 2) := by unfold tokRes; rw [if_pos (by omega)]
    rw [hres]
    exact ⟨none, 0, rfl, Owns.nil _ _ _ _, Mod.refl _ _⟩
  have h20 : ¬ 20000 < s.length := by have := of_decide_eq_false h20; omega
  refine ⟨fun p L C i w1 => ∃ n acc, i = ((n : Nat) : Int) ∧ L = acc.length ∧ RS w w1 s n acc p C, fun _ _ _ i _ => s.length - i.toNat, ⟨0, [], rfl, rfl, Nat.zero_le _, Owns.nil _ _ _ _, Mod.refl _ _, by simp, by simp⟩, ?_⟩
  rintro p _ C _ _ w1 ⟨n, acc, rfl, rfl, h⟩
  have hn := h.at'
  have hfew := h.few
  have wr : ∀ m : Nat, m ≤ s.length + 2 → IntKind.i64.wrap (m : Int) = (m : Int) := fun m hm => wrap_i64 (by omega) (by omega)
  refine bsel_of (fun hx => ?_) (fun hx => ?_)
  · have hx : n < s.length := by have := of_decide_eq_true hx; omega
    have hg : s[Int.toNat (n : Int)]? = some s[n] := by rw [Int.toNat_natCast]; exact getD_some hx
    have e1 : IntKind.i64.wrap ((n : Int) + 1) = ((n + 1 : Nat) : Int) := by rw [wrap_i64 (by omega) (by omega)]; omega
    rw [e1]
    have quiet : ∀ m, n < m → m ≤ s.length → tokOne s[n] (s.drop (n + 1)) = some ([], s.drop m) → (∃ n1 acc1, ((m : Nat) : Int) = ((n1 : Nat) : Int) ∧ acc.length = acc1.length ∧ RS w w1 s n1 acc1 p C) ∧ s.length - Int.toNat ((m : Nat) : Int) < s.length - Int.toNat (n : Int) := by
      intro m h1 h2 h3
      exact ⟨⟨m, acc, rfl, rfl, h.quiet hx h1 h2 h3 rfl⟩, by omega⟩
    refine ⟨by omega, _, hg, bsel_of (fun h32 => ?_) (fun h32 => ⟨by omega, _, hg, bsel_of (fun h9 => ?_) (fun h9 => ⟨by omega, _, hg, bsel_of (fun h35 => ?_) (fun h35 => ⟨by omega, _, hg, bsel_of (fun h10 => ?_) (fun h10 => ⟨by omega, _, hg, ?_⟩)⟩)⟩)⟩)⟩
    · exact quiet (n + 1) (by omega) hx (by unfold tokOne; rw [if_pos (.inl (byte_eq.1 (of_decide_eq_true h32)))])
    · exact quiet (n + 1) (by omega) hx (by unfold tokOne; rw [if_pos (.inr (byte_eq.1 (of_decide_eq_true h9)))])
    all_goals
      have n32 : ¬ s[n] = 32 := fun e => of_decide_eq_false h32 (byte_eq.2 e)
      have n9 : ¬ s[n] = 9 := fun e => of_decide_eq_false h9 (byte_eq.2 e)
      have hbl : ¬ (s[n] = 32 ∨ s[n] = 9) := fun e => e.elim n32 n9
    · have h35 : s[n] = 35 := byte_eq.1 (of_decide_eq_true h35)
      have hone : tokOne s[n] (s.drop (n + 1)) = some ([], lineEnd (s.drop n)) := by
        unfold tokOne
        rw [if_neg hbl, if_pos h35, List.drop_eq_getElem_cons hx]
        conv => rhs; rw [lineEnd, if_neg (by rw [h35]; decide)]
      refine ⟨fun i w2 => ∃ m : Nat, i = (m : Int) ∧ n ≤ m ∧ m ≤ s.length ∧ lineEnd (s.drop m) = lineEnd (s.drop n) ∧ w2 = w1, fun i _ => s.length - i.toNat, ⟨n, rfl, Nat.le_refl _, hn, rfl, rfl⟩, ?_⟩
      rintro _ _ w2 ⟨m, rfl, hnm, hm, hle, rfl⟩
      have e2 : IntKind.i64.wrap ((m : Int) + 1) = ((m + 1 : Nat) : Int) := by rw [wrap_i64 (by omega) (by omega)]; omega
      rw [e2]
      refine bsel_of (fun hy => ?_) (fun hy => ?_)
      · have hy : m < s.length := by have := of_decide_eq_true hy; omega
        have hgm : s[Int.toNat (m : Int)]? = some s[m] := by rw [Int.toNat_natCast]; exact getD_some hy
        have hdm := List.drop_eq_getElem_cons hy
        refine ⟨by omega, _, hgm, bsel_of (fun h10 => ?_) (fun h10 => ?_)⟩
        · have h10 : ¬ s[m] = 10 := fun e => by rw [Bool.not_eq_true'] at h10; exact of_decide_eq_false h10 (byte_eq.2 e)
          refine ⟨⟨m + 1, rfl, by omega, hy, ?_, rfl⟩, by dsimp only; omega⟩
          rw [← hle, hdm, lineEnd, if_neg h10]
        · have h10 : s[m] = 10 := by rw [Bool.not_eq_false'] at h10; exact byte_eq.1 (of_decide_eq_true h10)
          have hne : n ≠ m := by
            rintro rfl
            rw [h35] at h10
            cases h10
          refine quiet m (by omega) hm ?_
          rw [hone, ← hle, hdm, lineEnd, if_pos h10]
      · have hy : m = s.length := by have := of_decide_eq_false hy; omega
        refine quiet m (by omega) hm ?_
        rw [hone, ← hle, List.drop_of_length_le (by omega)]
        rfl
    all_goals
      have n35 : ¬ s[n] = 35 := fun e => of_decide_eq_false h35 (byte_eq.2 e)
    · have h10 : s[n] = 10 := byte_eq.1 (of_decide_eq_true h10)
      refine ⟨tc acc, [.int .i64 2, .string (S [10])], (h.li.alloc _).base0, rfl, two_one, pair_src _ _ _ _, by omega, by omega, fun p3 C3 w3 ho3 hg3 hb3 => ?_⟩
      exact ⟨⟨n + 1, acc ++ [(2, [10])], rfl, by simp, h.told hx (by omega) hx (by unfold tokOne; rw [if_neg hbl, if_neg n35, if_pos h10]) rfl ho3 hg3 hb3⟩, by dsimp only; omega⟩
    have n10 : ¬ s[n] = 10 := fun e => of_decide_eq_false h10 (byte_eq.2 e)
    refine (ref_ends_spec s[n]).mono ?_
    rintro _ w4 ⟨rfl, rfl⟩
    refine .inl ⟨_, rfl, bsel_of (fun hend => ?_) (fun hend => ?_)⟩
    · refine (ref_sign_spec s n hn (by omega)).mono ?_
      rintro _ w5 ⟨rfl, hm5⟩
      have hsg : (signL.find? fun t => pf t (s.drop n)).getD [] = (s[n] :: s.drop (n + 1)).take (opLen (s[n] :: s.drop (n + 1))) := by
        rw [List.drop_eq_getElem_cons hx]
        exact sign_is hend n32 n9 n10
      rw [hsg]
      have hol := opLen_le (a := s[n]) (r := s.drop (n + 1))
      have hll : (s[n] :: s.drop (n + 1)).length = s.length - n := by rw [← List.drop_eq_getElem_cons hx, List.length_drop]
      have htl : ((s[n] :: s.drop (n + 1)).take (opLen (s[n] :: s.drop (n + 1)))).length = opLen (s[n] :: s.drop (n + 1)) := by rw [List.length_take]; omega
      have h5 : RS w w5 s n acc p C := ⟨hn, h.li.mod hm5 (fun _ _ h => h), Mod.trans h.still hm5 (fun _ h => h) (fun _ _ h => h), h.all, hfew⟩
      refine .inl ⟨_, rfl, tc acc, [.int .i64 1, .string (S ((s[n] :: s.drop (n + 1)).take (opLen (s[n] :: s.drop (n + 1)))))], (h5.li.alloc _).base0, rfl, two_one, pair_src _ _ _ _, by omega, by omega, fun p3 C3 w6 ho6 hg6 hb6 => ?_⟩
      rw [htl]
      have e2 : IntKind.i64.wrap ((n : Int) + (opLen (s[n] :: s.drop (n + 1)) : Int)) = ((n + opLen (s[n] :: s.drop (n + 1)) : Nat) : Int) := by rw [wrap_i64 (by omega) (by omega)]; omega
      rw [e2]
      refine ⟨⟨_, acc ++ [(1, (s[n] :: s.drop (n + 1)).take (opLen (s[n] :: s.drop (n + 1))))], rfl, by simp, h5.told hx (by omega) (by omega) (t := (s[n] :: s.drop (n + 1)).drop (opLen (s[n] :: s.drop (n + 1)))) (by unfold tokOne; rw [if_neg hbl, if_neg n35, if_neg n10, if_pos hend]) ?_ ho6 hg6 hb6⟩, by dsimp only; omega⟩
      rw [← List.drop_eq_getElem_cons hx, List.drop_drop]
    · refine ⟨fun i w7 => ∃ m : Nat, i = (m : Int) ∧ n ≤ m ∧ m ≤ s.length ∧ wordD (s.drop m) = wordD (s.drop n) ∧ w7 = w4, fun i _ => s.length - i.toNat, ⟨n, rfl, Nat.le_refl _, hn, rfl, rfl⟩, ?_⟩
      rintro _ _ w7 ⟨m, rfl, hnm, hm, hwd, rfl⟩
      have hone : tokOne s[n] (s.drop (n + 1)) = match wordD (s.drop m) with
        | some t => some ([(0, (s.drop n).take ((s.drop n).length - t.length))], t)
        | none => none := by
        unfold tokOne
        rw [if_neg hbl, if_neg n35, if_neg n10, if_neg (by rw [hend]; decide), ← List.drop_eq_getElem_cons hx, hwd]
        cases wordD (s.drop n) <;> rfl
      refine ⟨fun x w9 => x = !endsB (s.drop m) ∧ w9 = w7, bsel_of (fun hy => ?_) (fun hy => ?_), ?_⟩
      · have hy : m < s.length := by have := of_decide_eq_true hy; omega
        have hgm : s[Int.toNat (m : Int)]? = some s[m] := by rw [Int.toNat_natCast]; exact getD_some hy
        refine ⟨by omega, _, hgm, (ref_ends_spec s[m]).mono ?_⟩
        rintro _ w8 ⟨rfl, rfl⟩
        exact .inl ⟨_, rfl, by rw [endsB_drop hy], rfl⟩
      · have hy : m = s.length := by have := of_decide_eq_false hy; omega
        refine ⟨?_, rfl⟩
        rw [List.drop_of_length_le (by omega)]
        rfl
      · rintro _ _ w9 ⟨rfl, rfl⟩
        refine bsel_of (fun he => ?_) (fun he => ?_)
        · have he : endsB (s.drop m) = false := by simpa using he
          have hy : m < s.length := by
            rcases Nat.lt_or_ge m s.length with h | h
            · exact h
            · rw [List.drop_of_length_le h] at he
              cases he
          refine (ref_skip_spec s m hy (by omega)).mono ?_
          rintro _ w10 ⟨rfl, rfl⟩
          refine .inl ⟨_, rfl, ?_⟩
          cases hu : unitD 30 (s.drop m) with
          | none =>
            refine bsel_of (fun _ => ?_) (fun h => by have := of_decide_eq_false h; simp [ix] at this)
            rw [wordD_none he hu] at hone
            have hall := h.all
            rw [List.drop_eq_getElem_cons hx, toks_cons, hone] at hall
            have hno : toks s = none := by rw [← hall]; rfl
            have hres : tokRes s = ([], 80) := by unfold tokRes; rw [if_neg h20, hno]
            rw [hres]
            exact ⟨none, 0, rfl, Owns.nil _ _ _ _, h.still⟩
          | some t =>
            have h1 := unitD_ends 30 _ _ hu
            have h2 := unitD_takes 30 _ _ hu
            rw [List.length_drop] at h2
            have h3 := h1.trans (drop_suf s m)
            have hle := h3.length_le
            refine bsel_of (fun h => ?_) (fun _ => ⟨⟨s.length - t.length, rfl, by omega, by omega, ?_, rfl⟩, ?_⟩)
            · have h := of_decide_eq_true h
              simp only [ix] at h
              omega
            · rw [← suf_drop h3, ← wordD_unit he hu, hwd]
            · simp only [ix]
              omega
        · have he : endsB (s.drop m) = true := by simpa using he
          rw [wordD_ends he] at hone
          have hnm2 : n ≠ m := by
            rintro rfl
            rw [endsB_drop hx] at he
            rw [he] at hend
            cases hend
          have hlen : (s.drop n).length - (s.drop m).length = m - n := by rw [List.length_drop, List.length_drop]; omega
          rw [show Int.toNat (m : Int) - Int.toNat (n : Int) = m - n by omega, Int.toNat_natCast]
          dsimp only at hone
          rw [hlen] at hone
          refine ⟨by omega, by omega, by omega, tc acc, [.int .i64 0, .string (S ((s.drop n).take (m - n)))], (h.li.alloc _).base0, rfl, two_one, pair_src _ _ _ _, by omega, by omega, fun p3 C3 w11 ho11 hg11 hb11 => ?_⟩
          exact ⟨⟨m, acc ++ [(0, (s.drop n).take (m - n))], rfl, by simp, h.told hx (by omega) hm hone rfl ho11 hg11 hb11⟩, by dsimp only; omega⟩
  · have hx : n = s.length := by have := of_decide_eq_false hx; omega
    have hall : toks s = some acc := by rw [← h.all, List.drop_of_length_le (by omega)]; simp [toks_nil]
    have hres : tokRes s = (acc, 0) := by unfold tokRes; rw [if_neg h20, hall]
    rw [hres]
    exact ⟨p, C, rfl, h.li, h.still⟩
def TokAt (w : World) (p : Option Addr) (n : Nat) (l : List Tok) : Prop := l.length = n ∧ ∀ i x, l[i]? = some x → ∃ a, p = some a ∧ w.cell? (a.add (i * 2)) = some (.int .i64 (x.1 : Int)) ∧ w.cell? ((a.add (i * 2)).add 1) = some (.string (S x.2))
theorem TokAt.still {w w' : World} {p : Option Addr} {n : Nat} {l : List Tok} (h : TokAt w p n l) (hm : Still w w') : TokAt w' p n l := by
  refine ⟨h.1, fun i x hx => ?_⟩
  obtain ⟨a, h1, h2, h3⟩ := h.2 i x hx
  have cell : ∀ {a : Addr} {v : Value}, w.cell? a = some v → w'.cell? a = some v := fun h => (World.cell?_of_block (hm.block _ (World.block_lt_of_cell? _ _ h) (fun h => h))).trans h
  exact ⟨a, h1, cell h2, cell h3⟩
end Go.Proofs.YtcoeiiihmpnagaaGreatDoor
namespace Go.Proofs.YtcoeiiihmpnagaaGreatDoor
open Go.RowKit Vc
variable {w : World} {α β : Type}
def Enc.OutX (e : Enc α) (w : World) (B : Nat) (t : TypeId) (X : Nat → Prop) (gn : Nat) (l : List α) (v : Value) : Prop := ∃ p c xs, v = .slice p l.length c ∧ Owns w B t e.sz v l.length xs ∧ (∀ k, v.ownBlock = some k → X k ∧ k ≠ gn) ∧ e.Cs w (fun k => B ≤ k ∧ k < w.heap.size ∧ ¬ X k) l xs
theorem Enc.OutX.nil (e : Enc α) (w : World) (B : Nat) (t : TypeId) (X : Nat → Prop) (gn : Nat) : e.OutX w B t X gn [] (.slice none 0 0) := ⟨none, 0, [], rfl, Owns.nil _ _ _ _, fun k hk => (by cases hk), rfl⟩
section
variable {e : Enc α} {B gn : Nat} {t : TypeId} {X X' : Nat → Prop} {l : List α} {v : Value}
theorem Enc.OutX.form (h : e.OutX w B t X gn l v) : ∃ p c, v = .slice p l.length c := by
  obtain ⟨p, c, _, he, _⟩ := h
  exact ⟨p, c, he⟩
theorem Enc.OutX.at (h : e.OutX w B t X gn l v) : e.At w (fun k => B ≤ k ∧ k < w.heap.size) l v := by
  obtain ⟨p, c, xs, rfl, ho, _, hc⟩ := h
  obtain ⟨p', c', he, hle⟩ := ho.cap
  injection he with _ _ e3
  subst e3
  refine ⟨p, c, rfl, hle, fun hl => ?_⟩
  have hn : 0 < l.length := List.length_pos_iff.2 hl
  obtain ⟨g, cap, he, hB, hg, _, hcell⟩ := ho.ownAddr hn
  injection he with e1 e2 e3
  subst e1
  refine ⟨_, xs, rfl, ⟨hB, hg⟩, hc.turn (fun k hk => ⟨hk.1, hk.2.1⟩) (fun _ _ _ h => h), fun j u hu => ?_⟩
  rw [add_row, Nat.zero_add]
  exact hcell j u hu
theorem Enc.OutX.mod {S : Nat → Prop} {w' : World} (h : e.OutX w B t X gn l v) (hm : Mod S w w') (hS : ∀ k, B ≤ k → k < w.heap.size → S k → X k ∧ v.ownBlock ≠ some k) (hX : ∀ k, X k → X' k) (hX' : ∀ k, X' k → X k ∨ w.heap.size ≤ k) : e.OutX w' B t X' gn l v := by
  obtain ⟨p, c, xs, rfl, ho, hg, hc⟩ := h
  refine ⟨p, c, xs, rfl, ho.mod hm fun k hk hs => (hS k (ho.lt k hk).1 (ho.lt k hk).2 hs).2 hk, fun k hk => ⟨hX k (hg k hk).1, (hg k hk).2⟩, hc.turn (fun k hk => ⟨hk.1, Nat.lt_of_lt_of_le hk.2.1 hm.size, fun hx => ?_⟩) fun a v ⟨k, hk, ea⟩ hcell => mod_cell hm (by rw [ea]; exact fun hs => hk.2.2 (hS k hk.1 hk.2.1 hs).1) hcell⟩
  rcases hX' k hx with hx | hx
  · exact hk.2.2 hx
  · omega
theorem Enc.OutX.push {bytes : Nat} {p : Option Addr} {n c : Nat} {x : α} {cs : List Value} {K : Option Addr → Nat → World → Prop} {Sw : World → Prop} (ho : e.OutX w B t X gn l (.slice p n c)) (hB : B ≤ w.heap.size) (_hXs : ∀ k, X k → k < w.heap.size) (hgn : gn < w.heap.size)
    (hS : ∀ w1, Still w w1 → Sw w1) (hx : e.E w (fun k => B ≤ k ∧ k < w.heap.size ∧ ¬ X k) x cs) (hs : n + 1 ≤ 9223372036854775807) (hb : (n + 1) * bytes ≤ 140737488355328)
    (h : ∀ p' c' w', e.OutX w' B t (fun k => X k ∨ (Value.slice p' (n + 1) c').ownBlock = some k) gn (l ++ [x]) (.slice p' (n + 1) c') → Mod (fun k => (Value.slice p n c).ownBlock = some k) w w' → (∀ k, (Value.slice p' (n + 1) c').ownBlock = some k → X k ∨ w.heap.size ≤ k) → (∀ k, (Value.slice p' (n + 1) c').ownBlock = some k → k < w'.heap.size) → K p' c' w') :
    letW (w.alloc (.cells ⟨cs⟩ t)) (fun w2 => Sw w2 ∧ appK w2 t e.sz bytes p n c (some (Addr.mk w.heap.size 0 none)) 1 K) := by
  obtain ⟨p0, c0, xs, he, ho, hg, hc⟩ := ho
  injection he with e1 e2 e3
  subst e1 e2 e3
  have hl := e.len hx
  refine allocK fun w1 hr hst hz => ⟨hS w1 hst, ?_⟩
  refine appK_push (ho.still hst) (by omega) cs (by omega) (e.one hx) (fun _ => ⟨_, rfl, fun j u hu => ?_⟩) hs hb fun p' c' w' ho' hm hk => ?_
  · rw [add_row, Nat.zero_add]
    exact hr.cellv (by simpa using hu)
  have hz' := hm.size
  have hown : ∀ k, (Value.slice p' (l.length + 1) c').ownBlock = some k → (X k ∧ k ≠ gn) ∨ w.heap.size + 1 = k := by
    intro k hk'
    rcases hk.own (n := l.length) with hk | hk
    · exact .inl (hg k (hk.symm.trans hk'))
    · rw [hk'] at hk
      have := Option.some.inj hk
      exact .inr (by omega)
  refine h p' c' w' ⟨p', c', xs ++ cs, by rw [List.length_append]; rfl, by rw [List.length_append]; exact ho', fun k hk' => ⟨.inr hk', ?_⟩, ?_⟩ (Mod.trans hst hm (fun _ h => h.elim) (fun _ _ h => h)) (fun k hk' => ?_) fun k hk' => (ho'.lt k hk').2
  · rcases hown k hk' with h | h
    · exact h.2
    · omega
  · refine (hc.append (Enc.Cs.single hx)).turn (fun k hk => ⟨hk.1, by omega, fun hx => ?_⟩) fun a v ⟨k, hk, ea⟩ hcell => mod_cell hm (by rw [ea]; exact fun h => hk.2.2 (hg k h).1) (hst.cell hcell)
    rcases hx with hx | hx
    · exact hk.2.2 hx
    · rcases hown k hx with h | h
      · exact hk.2.2 h.1
      · omega
  · rcases hown k hk' with h | h
    · exact .inl h.1
    · exact .inr (by omega)
theorem Enc.OutX.row {g : Nat} {xs : List Value} (hr : Row w g t ⟨xs⟩) (hB : B ≤ g) (hg : g ≠ gn) (hX : X g) (hm : l.length ≤ 1000000) (hc : e.Cs w (fun k => B ≤ k ∧ k < w.heap.size ∧ ¬ X k) l xs) : e.OutX w B t X gn l (.slice (some ⟨g, 0, none⟩) l.length l.length) := by
  have hl := hc.len
  refine ⟨_, _, xs, rfl, ⟨hl, .inr ⟨g, l.length, ⟨xs⟩, rfl, hB, hr, Nat.le_refl _, Nat.le_trans hm (by decide), hl, ?_⟩⟩, fun k hk => ?_, hc⟩
  · rw [← hl]
    exact List.take_length
  · obtain rfl := Option.some.inj hk
    exact ⟨hX, hg⟩
end
theorem Enc.OutX.apart {e : Enc α} {f : Enc β} {B gn : Nat} {t u : TypeId} {X : Nat → Prop} {l : List α} {m : List β} {v v' : Value} (h : e.OutX w B t X gn l v) (h' : f.OutX w B u X gn m v') (hne : t ≠ u) {k : Nat} (hk : v.ownBlock = some k) : v'.ownBlock ≠ some k := by
  obtain ⟨_, _, _, _, ho, _⟩ := h
  obtain ⟨_, _, _, _, ho', _⟩ := h'
  exact ho.apart ho' hne hk
structure NB (w0 w : World) (g gn B : Nat) (X : Nat → Prop) (x : Nd) (vw va vr vo vk : Value) : Prop where
  row : Row w gn 31 ⟨ncell x vw va vr vo vk⟩
  only : Only g w0 w
  hg : g < w0.heap.size
  hB : w0.heap.size ≤ B
  hgn : B ≤ gn
  xs : ∀ k, X k → k < w.heap.size ∧ B ≤ k
  xg : X gn
  ow : wsE.OutX w B 53 X gn x.ws vw
  oa : nsE.OutX w B 55 X gn x.as va
  ord : nsE.OutX w B 58 X gn x.rs vr
  oo : osE.OutX w B 9 X gn x.os vo
  ok : ndE.OutX w B 31 X gn x.ks vk
section
variable {w0 w1 w' : World} {g gn B : Nat} {X : Nat → Prop} {x : Nd} {vw va vr vo vk : Value}
theorem NB.mod {S : Nat → Prop} (h : NB w0 w g gn B X x vw va vr vo vk) (hm : Mod S w w') (hS : ∀ k, S k → k = g ∨ w.heap.size ≤ k) : NB w0 w' g gn B X x vw va vr vo vk := by
  have hz := hm.size
  have key : ∀ k, B ≤ k → k < w.heap.size → S k → False := fun k h1 h2 h3 => by
    have := h.hg
    have := h.hB
    rcases hS k h3 with h4 | h4 <;> omega
  have n1 : ¬ S gn := fun hs => key gn h.hgn (h.xs _ h.xg).1 hs
  refine ⟨h.row.mod hm n1, Mod.trans h.only hm (fun _ h => h) (fun i hi hs => ?_), h.hg, h.hB, h.hgn, fun k hk => ⟨Nat.lt_of_lt_of_le (h.xs k hk).1 hz, (h.xs k hk).2⟩, h.xg, ?_, ?_, ?_, ?_, ?_⟩
  · have := h.only.size
    rcases hS _ hs with h4 | h4 <;> omega
  · exact h.ow.mod hm (fun k h1 h2 h3 => (key k h1 h2 h3).elim) (fun _ h => h) (fun _ h => .inl h)
  · exact h.oa.mod hm (fun k h1 h2 h3 => (key k h1 h2 h3).elim) (fun _ h => h) (fun _ h => .inl h)
  · exact h.ord.mod hm (fun k h1 h2 h3 => (key k h1 h2 h3).elim) (fun _ h => h) (fun _ h => .inl h)
  · exact h.oo.mod hm (fun k h1 h2 h3 => (key k h1 h2 h3).elim) (fun _ h => h) (fun _ h => .inl h)
  · exact h.ok.mod hm (fun k h1 h2 h3 => (key k h1 h2 h3).elim) (fun _ h => h) (fun _ h => .inl h)
theorem NB.on (h : NB w0 w g gn B X x vw va vr vo vk) (hm : Only g w w') : NB w0 w' g gn B X x vw va vr vo vk := h.mod hm fun _ h => .inl h
theorem NB.still (h : NB w0 w g gn B X x vw va vr vo vk) (hm : Still w w') : NB w0 w' g gn B X x vw va vr vo vk := h.mod hm fun _ h => h.elim
theorem NB.put (h : NB w0 w g gn B X x vw va vr vo vk) (hm : Mod (fun k => k = gn) w w') {y : Nd} {uw ua ur uo uk : Value} (hr : Row w' gn 31 ⟨ncell y uw ua ur uo uk⟩) (hw : wsE.OutX w' B 53 X gn y.ws uw ∨ y.ws = x.ws ∧ uw = vw) (ha : y.as = x.as ∧ ua = va) (hrr : y.rs = x.rs ∧ ur = vr) (ho : osE.OutX w' B 9 X gn y.os uo ∨ y.os = x.os ∧ uo = vo) (hk : ndE.OutX w' B 31 X gn y.ks uk ∨ y.ks = x.ks ∧ uk = vk) : NB w0 w' g gn B X y uw ua ur uo uk := by
  have hz := hm.size
  have own : ∀ {v : Value}, (∀ k, v.ownBlock = some k → X k ∧ k ≠ gn) → v.ownBlock ≠ some gn := fun hv he => (hv gn he).2 rfl
  refine ⟨hr, Mod.trans h.only hm (fun _ h => h) (fun i hi e => ?_), h.hg, h.hB, h.hgn, fun k hk => ⟨Nat.lt_of_lt_of_le (h.xs k hk).1 hz, (h.xs k hk).2⟩, h.xg, ?_, ?_, ?_, ?_, ?_⟩
  · have := h.hgn
    have := h.hB
    omega
  · rcases hw with hw | hw
    · exact hw
    rw [hw.1, hw.2]
    obtain ⟨_, _, _, _, _, hg, _⟩ := id h.ow
    exact h.ow.mod hm (fun k _ _ e => by subst e; exact ⟨h.xg, own hg⟩) (fun _ h => h) (fun _ h => .inl h)
  · rw [ha.1, ha.2]
    obtain ⟨_, _, _, _, _, hg, _⟩ := id h.oa
    exact h.oa.mod hm (fun k _ _ e => by subst e; exact ⟨h.xg, own hg⟩) (fun _ h => h) (fun _ h => .inl h)
  · rw [hrr.1, hrr.2]
    obtain ⟨_, _, _, _, _, hg, _⟩ := id h.ord
    exact h.ord.mod hm (fun k _ _ e => by subst e; exact ⟨h.xg, own hg⟩) (fun _ h => h) (fun _ h => .inl h)
  · rcases ho with ho | ho
    · exact ho
    rw [ho.1, ho.2]
    obtain ⟨_, _, _, _, _, hg, _⟩ := id h.oo
    exact h.oo.mod hm (fun k _ _ e => by subst e; exact ⟨h.xg, own hg⟩) (fun _ h => h) (fun _ h => .inl h)
  · rcases hk with hk | hk
    · exact hk
    rw [hk.1, hk.2]
    obtain ⟨_, _, _, _, _, hg, _⟩ := id h.ok
    exact h.ok.mod hm (fun k _ _ e => by subst e; exact ⟨h.xg, own hg⟩) (fun _ h => h) (fun _ h => .inl h)
theorem NB.nde (h : NB w0 w g gn B X x vw va vr vo vk) : NdE w (fun k => B ≤ k ∧ k < w.heap.size) x (ncell x vw va vr vo vk) :=
  NdE.of h.ow.at h.oa.at h.ord.at h.oo.at h.ok.at
theorem NB.mk0 {x : Nd} (hr : Row w gn 31 ⟨ncell x (.slice none 0 0) (.slice none 0 0) (.slice none 0 0) (.slice none 0 0) (.slice none 0 0)⟩) (ho : Only g w0 w) (hg : g < w0.heap.size) (hB : w0.heap.size ≤ B) (hgn : B ≤ gn) (hx : x.ws = [] ∧ x.as = [] ∧ x.rs = [] ∧ x.os = [] ∧ x.ks = []) :
    NB w0 w g gn B (fun k => k = gn) x (.slice none 0 0) (.slice none 0 0) (.slice none 0 0) (.slice none 0 0) (.slice none 0 0) := by
  obtain ⟨h1, h2, h3, h4, h5⟩ := hx
  refine ⟨hr, ho, hg, hB, hgn, fun k hk => by subst hk; exact ⟨hr.lt, hgn⟩, rfl, ?_, ?_, ?_, ?_, ?_⟩
  · rw [h1]; exact Enc.OutX.nil _ _ _ _ _ _
  · rw [h2]; exact Enc.OutX.nil _ _ _ _ _ _
  · rw [h3]; exact Enc.OutX.nil _ _ _ _ _ _
  · rw [h4]; exact Enc.OutX.nil _ _ _ _ _ _
  · rw [h5]; exact Enc.OutX.nil _ _ _ _ _ _
theorem NB.mkK {x y : Nd} {b : Nat} {cs : List Value} (hr : Row w gn 31 ⟨ncell x (.slice none 0 0) (.slice none 0 0) (.slice none 0 0) (.slice none 0 0) (.slice (some ⟨b, 0, none⟩) 1 1)⟩) (hb : Row w b 31 ⟨cs⟩) (hc : NdE w (fun k => B ≤ k ∧ k < w.heap.size ∧ k ≠ gn ∧ k ≠ b) y cs) (ho : Only g w0 w) (hg : g < w0.heap.size) (hB : w0.heap.size ≤ B) (hgn : B ≤ gn) (hbB : B ≤ b) (hne : b ≠ gn) (hx : x.ws = [] ∧ x.as = [] ∧ x.rs = [] ∧ x.os = [] ∧ x.ks = [y]) :
    NB w0 w g gn B (fun k => k = gn ∨ k = b) x (.slice none 0 0) (.slice none 0 0) (.slice none 0 0) (.slice none 0 0) (.slice (some ⟨b, 0, none⟩) 1 1) := by
  obtain ⟨h1, h2, h3, h4, h5⟩ := hx
  refine ⟨hr, ho, hg, hB, hgn, fun k hk => ?_, .inl rfl, ?_, ?_, ?_, ?_, ?_⟩
  · rcases hk with rfl | rfl
    · exact ⟨hr.lt, hgn⟩
    · exact ⟨hb.lt, hbB⟩
  · rw [h1]; exact Enc.OutX.nil _ _ _ _ _ _
  · rw [h2]; exact Enc.OutX.nil _ _ _ _ _ _
  · rw [h3]; exact Enc.OutX.nil _ _ _ _ _ _
  · rw [h4]; exact Enc.OutX.nil _ _ _ _ _ _
  · rw [h5]
    exact Enc.OutX.row (l := [y]) hb hbB hne (.inr rfl) (show 1 ≤ 1000000 by decide) (Enc.Cs.single (hc.mono fun k hk => ⟨hk.1, hk.2.1, fun h => h.elim hk.2.2.1 hk.2.2.2⟩))
end
abbrev zcell : List Value := ncell (.mk 0 false [] [] [] [] [] []) (.slice none 0 0) (.slice none 0 0) (.slice none 0 0) (.slice none 0 0) (.slice none 0 0)
def NExit (gn gr : Nat) (w : World) (R : Ending → World → Prop) : Prop :=
  ∃ vKind : Int, ∃ vNot : Bool, ∃ vName : List UInt8, ∃ (vWords : Option Addr) (vWordsL vWordsC : Nat), ∃ (vAssigns : Option Addr) (vAssignsL vAssignsC : Nat), ∃ (vRedirs : Option Addr) (vRedirsL vRedirsC : Nat), ∃ (vOps : Option Addr) (vOpsL vOpsC : Nat), ∃ (vKids : Option Addr) (vKidsL vKidsC : Nat), w.cell? (Addr.mk gn 0 none) = some (.int .i64 vKind) ∧ w.cell? (Addr.mk gn 1 none) = some (.bool vNot) ∧ w.cell? (Addr.mk gn 2 none) = some (.string (S vName)) ∧ w.cell? (Addr.mk gn 3 none) = some (.slice vWords vWordsL vWordsC) ∧ w.cell? (Addr.mk gn 4 none) = some (.slice vAssigns vAssignsL vAssignsC) ∧ w.cell? (Addr.mk gn 5 none) = some (.slice vRedirs vRedirsL vRedirsC) ∧ w.cell? (Addr.mk gn 6 none) = some (.slice vOps vOpsL vOpsC) ∧ w.cell? (Addr.mk gn 7 none) = some (.slice vKids vKidsL vKidsC) ∧ stCells (Addr.mk gr 0 none) (fun (w7 : World) => ∃ vKind1 : Int, ∃ vNot1 : Bool, ∃ vName1 : List UInt8, ∃ (vWords1 : Option Addr) (vWordsL1 vWordsC1 : Nat), ∃ (vAssigns1 : Option Addr) (vAssignsL1 vAssignsC1 : Nat), ∃ (vRedirs1 : Option Addr) (vRedirsL1 vRedirsC1 : Nat), ∃ (vOps1 : Option Addr) (vOpsL1 vOpsC1 : Nat), ∃ (vKids1 : Option Addr) (vKidsL1 vKidsC1 : Nat), w7.cell? (Addr.mk gr 0 none) = some (.int .i64 vKind1) ∧ w7.cell? (Addr.mk gr 1 none) = some (.bool vNot1) ∧ w7.cell? (Addr.mk gr 2 none) = some (.string (S vName1)) ∧ w7.cell? (Addr.mk gr 3 none) = some (.slice vWords1 vWordsL1 vWordsC1) ∧ w7.cell? (Addr.mk gr 4 none) = some (.slice vAssigns1 vAssignsL1 vAssignsC1) ∧ w7.cell? (Addr.mk gr 5 none) = some (.slice vRedirs1 vRedirsL1 vRedirsC1) ∧ w7.cell? (Addr.mk gr 6 none) = some (.slice vOps1 vOpsL1 vOpsC1) ∧ w7.cell? (Addr.mk gr 7 none) = some (.slice vKids1 vKidsL1 vKidsC1) ∧ R (.returned (.agg #[(.int .i64 vKind1), (.bool vNot1), (.string (S vName1)), (.slice vWords1 vWordsL1 vWordsC1), (.slice vAssigns1 vAssignsL1 vAssignsC1), (.slice vRedirs1 vRedirsL1 vRedirsC1), (.slice vOps1 vOpsL1 vOpsC1), (.slice vKids1 vKidsL1 vKidsC1)])) w7) 0 [(.int .i64 vKind), (.bool vNot), (.string (S vName)), (.slice vWords vWordsL vWordsC), (.slice vAssigns vAssignsL vAssignsC), (.slice vRedirs vRedirsL vRedirsC), (.slice vOps vOpsL vOpsC), (.slice vKids vKidsL vKidsC)] w
theorem nExit_spec {w0 : World} {g gn B : Nat} {X : Nat → Prop} {x : Nd} {vw va vr vo vk : Value} {R : Ending → World → Prop} (h : NB w0 w g gn B X x vw va vr vo vk) (hres : Row w w0.heap.size 31 ⟨zcell⟩) (hB : w0.heap.size < B)
    (hR : ∀ w' cs, Mod (fun k => k = w0.heap.size) w w' → Only g w0 w' → NdE w' (fun k => w0.heap.size ≤ k ∧ k < w'.heap.size) x cs → R (.returned (.agg ⟨cs⟩)) w') : NExit gn w0.heap.size w R := by
  have hn := h.nde
  obtain ⟨pw, cw, rfl⟩ := h.ow.form
  obtain ⟨pa, ca, rfl⟩ := h.oa.form
  obtain ⟨pr, cr, rfl⟩ := h.ord.form
  obtain ⟨po, co, rfl⟩ := h.oo.form
  obtain ⟨pk, ck, rfl⟩ := h.ok.form
  have hr := h.row
  refine ⟨_, _, _, _, _, _, _, _, _, _, _, _, _, _, _, _, _, _, hr.lget rfl, hr.lget rfl, hr.lget rfl, hr.lget rfl, hr.lget rfl, hr.lget rfl, hr.lget rfl, hr.lget rfl, stK hres (by simp) (by simp [Value.oneCell']) fun w' r' m' z' => ?_⟩
  refine ⟨_, _, _, _, _, _, _, _, _, _, _, _, _, _, _, _, _, _, r'.lget rfl, r'.lget rfl, r'.lget rfl, r'.lget rfl, r'.lget rfl, r'.lget rfl, r'.lget rfl, r'.lget rfl, hR w' _ m' (Mod.trans h.only m' (fun _ h => h) (fun i hi e => by omega)) ?_⟩
  exact (hn.mod m' fun k hk e => by omega).mono fun k hk => ⟨by omega, by omega⟩
theorem nExit_self {w0 : World} {g : Nat} {X : Nat → Prop} {x : Nd} {vw va vr vo vk : Value} {R : Ending → World → Prop} (h : NB w0 w g w0.heap.size w0.heap.size X x vw va vr vo vk)
    (hR : ∀ w' cs, Mod (fun k => k = w0.heap.size) w w' → Only g w0 w' → NdE w' (fun k => w0.heap.size ≤ k ∧ k < w'.heap.size) x cs → R (.returned (.agg ⟨cs⟩)) w') : NExit w0.heap.size w0.heap.size w R := by
  have hr := h.row
  obtain ⟨pw, cw, rfl⟩ := h.ow.form
  obtain ⟨pa, ca, rfl⟩ := h.oa.form
  obtain ⟨pr, cr, rfl⟩ := h.ord.form
  obtain ⟨po, co, rfl⟩ := h.oo.form
  obtain ⟨pk, ck, rfl⟩ := h.ok.form
  refine ⟨_, _, _, _, _, _, _, _, _, _, _, _, _, _, _, _, _, _, hr.lget rfl, hr.lget rfl, hr.lget rfl, hr.lget rfl, hr.lget rfl, hr.lget rfl, hr.lget rfl, hr.lget rfl, stK hr (by simp) (by simp [Value.oneCell']) fun w' r' m' z' => ?_⟩
  have h' := h.put m' r' (.inr ⟨rfl, rfl⟩) ⟨rfl, rfl⟩ ⟨rfl, rfl⟩ (.inr ⟨rfl, rfl⟩) (.inr ⟨rfl, rfl⟩)
  exact ⟨_, _, _, _, _, _, _, _, _, _, _, _, _, _, _, _, _, _, r'.lget rfl, r'.lget rfl, r'.lget rfl, r'.lget rfl, r'.lget rfl, r'.lget rfl, r'.lget rfl, r'.lget rfl, hR w' _ m' h'.only h'.nde⟩
end Go.Proofs.YtcoeiiihmpnagaaGreatDoor
