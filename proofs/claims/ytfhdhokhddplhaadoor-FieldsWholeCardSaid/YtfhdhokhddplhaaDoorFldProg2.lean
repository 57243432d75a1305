/- Fields, the program's side: a text parted, a piece taken, all pieces, pieces as one text. Conditions: as each theorem names them; texts are small. -/
import Derived.Test.YtfhdhokhddplhaaDoorFldProg
namespace Go.Proofs.YtfhdhokhddplhaaDoor
open Go.RowKit Vc
variable {w : World}

theorem Still.up {w w1 w2 : World} {g : Nat} (h : Still w w1) (hm : Up g w1 w2) (hg : w.heap.size ≤ g) : Still w w2 := Mod.trans h hm (fun _ h => h) (fun i hi e => by omega)
section
variable {g : Nat} {ifs : Txt} {x : St}
theorem Spl.c0 (h : Spl w g ifs x) : w.cell? ⟨g, 0, none⟩ = some (.string (S ifs)) := by
  obtain ⟨q, v, pa, co, hb, ho⟩ := h
  exact hb.row.lget rfl
theorem Spl.c4 (h : Spl w g ifs x) : w.cell? ((Addr.mk g 0 none).add 4) = some (.bool x.has) := by
  obtain ⟨q, v, pa, co, hb, ho⟩ := h
  rw [add_row]
  exact hb.row.lget rfl
theorem Spl.c5 (h : Spl w g ifs x) : w.cell? ((Addr.mk g 0 none).add 5) = some (.bool x.gap) := by
  obtain ⟨q, v, pa, co, hb, ho⟩ := h
  rw [add_row]
  exact hb.row.lget rfl
theorem gapK {K : World → Prop} (h : Spl w g ifs x) (b : Bool) (hK : ∀ w', Spl w' g ifs (x.mark b) → Up g w w' → K w') : stCells ((Addr.mk g 0 none).add 5) K 0 [.bool b] w := by
  obtain ⟨q, v, pa, co, hb, ho⟩ := h
  rw [add_row]
  refine stK hb.row (by simp) (by simp [Value.oneCell']) fun w3 hr3 hm3 hz3 => hK _ ⟨q, v, pa, co, hb.other hr3 hm3 rfl rfl, ho.mod hm3 (fun k hk e => by subst e; exact ho.notRow hb.row (by decide) hk)⟩ (hm3.weaken (fun k e => by omega))
theorem contains_spec (s : Txt) (c : UInt8) : Calls Tryd.prog fn_strings_Contains #[.string (S s), .string (S [c])] w (fun e w' => e = .returned (.bool (decide (c ∈ s))) ∧ w' = w) := by
  refine (Tryd.strings_Contains_one (S s) c w).mono ?_
  rintro _ w1 ⟨rfl, rfl⟩
  refine ⟨?_, rfl⟩
  have e : decide (0 ≤ Lib.indexByte (S s).data.toList c) = decide (c ∈ s) := by
    show decide (0 ≤ Lib.indexByte s c) = _
    by_cases h : c ∈ s
    · obtain ⟨k, hk, _⟩ := next_idx (List.count_pos_iff.2 h)
      rw [hk, decide_eq_true h, decide_eq_true (by omega)]
    · have h1 := Lib.indexByte_ge s c
      rw [decide_eq_false h, decide_eq_false]
      intro h0
      obtain ⟨o, ho⟩ := Int.eq_ofNat_of_zero_le h0
      exact h (List.mem_of_getElem? (Lib.indexByte_some ho).1)
  rw [e]
theorem stepC_in {c : UInt8} (h : decide (c ∈ ifs) = true) : stepC ifs x c = if blank c = true then (if x.has = true then x.fin.mark true else x) else if x.has = true ∨ x.gap = false then x.fin.mark false else x.mark false := by
  unfold stepC
  rw [if_pos h]
theorem splitS_snoc (s : Txt) (c : UInt8) : splitS ifs x (s ++ [c]) = stepC ifs (splitS ifs x s) c := by simp [splitS]
theorem split_spec (h : Spl w g ifs x) (s : Txt) (hs : x.size + 2 * s.length ≤ 1000000) (_hi : ifs.length ≤ 1000000) :
    Calls Tryd.prog fn_fields_splitter_split #[.pointer (some ⟨g, 0, none⟩), .string (S s)] w (fun e w' => e = .returned (.tuple #[]) ∧ Spl w' g ifs (splitS ifs x s) ∧ Up g w w') := by
  refine fields_splitter_split_calls _ _ _ _ ?_
  refine ⟨fun i w1 => ∃ k : Nat, i = (k : Int) ∧ k ≤ s.length ∧ Spl w1 g ifs (splitS ifs x (s.take k)) ∧ Up g w w1, fun i _ => s.length - i.toNat, ⟨0, rfl, Nat.zero_le _, h, Up.refl _ _⟩, ?_⟩
  rintro _ _ w1 ⟨k, rfl, hk, hsp, hu⟩
  refine bsel_of (fun hx => ?_) (fun hx => ?_)
  · have hx : k < s.length := by have := of_decide_eq_true hx; omega
    have e1 : IntKind.i64.wrap ((k : Int) + 1) = ((k + 1 : Nat) : Int) := by rw [wrap_i64 (by omega) (by omega)]; omega
    rw [e1]
    simp only [Int.toNat_natCast]
    rw [drop_take1 hx]
    have hsz := splitS_size ifs (s.take k) x
    have hstep : splitS ifs x (s.take (k + 1)) = stepC ifs (splitS ifs x (s.take k)) s[k] := by rw [take_snoc hx, splitS_snoc]
    rw [List.length_take, Nat.min_eq_left (by omega)] at hsz
    generalize splitS ifs x (s.take k) = y at *
    generalize s[k] = c at *
    have next : ∀ w', Spl w' g ifs (stepC ifs y c) → Up g w1 w' → (∃ j : Nat, ((k + 1 : Nat) : Int) = (j : Int) ∧ j ≤ s.length ∧ Spl w' g ifs (splitS ifs x (s.take j)) ∧ Up g w w') ∧ s.length - (k + 1) < s.length - k :=
      fun w' h1 h2 => ⟨⟨k + 1, rfl, hx, by rw [hstep]; exact h1, hu.trans h2⟩, by omega⟩
    refine ⟨by omega, by omega, by omega, _, hsp.c0, (contains_spec ifs c).mono ?_⟩
    rintro _ w2 ⟨rfl, rfl⟩
    refine .inl ⟨_, rfl, bsel_of (fun hin => ?_) (fun hin => ?_)⟩
    · have hin : ¬ decide (c ∈ ifs) = true := by simpa using hin
      have he : stepC ifs y c = y.put (active [c]) := by unfold stepC; rw [if_neg hin]
      rw [he] at next
      refine (active_spec [c] (by simp)).mono ?_
      rintro _ w3 ⟨rfl, hs3⟩
      have hal := active_len [c]
      simp only [List.length_cons, List.length_nil] at hal
      have hcf := cur_few y
      refine .inl ⟨_, rfl, (put_spec (hsp.still hs3) _ (by omega)).mono ?_⟩
      rintro _ w4 ⟨rfl, hs4, hu4⟩
      exact .inl ⟨rfl, next _ hs4 ((Up.of hs3).trans hu4)⟩
    · have hin : decide (c ∈ ifs) = true := by simpa using hin
      have he := stepC_in (x := y) hin
      refine (contains_spec [32, 9, 10] c).mono ?_
      rintro _ w3 ⟨rfl, rfl⟩
      refine .inl ⟨_, rfl, bsel_of (fun hb => ⟨_, hsp.c4, bsel_of (fun hh => ?_) (fun hh => ?_)⟩) (fun hb => ⟨_, hsp.c4, bsel_of (fun hh => ?_) (fun hh => ⟨_, hsp.c5, bsel_of (fun hg => ?_) (fun hg => ?_)⟩)⟩)⟩
      · have hb : blank c = true := by rw [← blank_in]; exact hb
        rw [if_pos hb, if_pos hh] at he
        rw [he] at next
        refine (end_spec hsp (by omega)).mono ?_
        rintro _ w4 ⟨rfl, hs4, hu4⟩
        exact .inl ⟨rfl, gapK hs4 true fun w5 hs5 hu5 => next _ hs5 (hu4.trans hu5)⟩
      · have hb : blank c = true := by rw [← blank_in]; exact hb
        rw [if_pos hb, if_neg (by rw [hh]; decide)] at he
        rw [he] at next
        exact next _ hsp (Up.refl _ _)
      · have hb : ¬ blank c = true := by rw [← blank_in]; exact fun e => by rw [show decide (c ∈ [32, 9, 10]) = true from e] at hb; cases hb
        rw [if_neg hb, if_pos (.inl hh)] at he
        rw [he] at next
        refine bsel_of (fun _ => ?_) (fun h => by rw [hh] at h; cases h)
        refine (end_spec hsp (by omega)).mono ?_
        rintro _ w4 ⟨rfl, hs4, hu4⟩
        exact .inl ⟨rfl, gapK hs4 false fun w5 hs5 hu5 => next _ hs5 (hu4.trans hu5)⟩
      · have hb : ¬ blank c = true := by rw [← blank_in]; exact fun e => by rw [show decide (c ∈ [32, 9, 10]) = true from e] at hb; cases hb
        have hg : y.gap = false := by simpa using hg
        rw [if_neg hb, if_pos (.inr hg)] at he
        rw [he] at next
        refine (end_spec hsp (by omega)).mono ?_
        rintro _ w4 ⟨rfl, hs4, hu4⟩
        exact .inl ⟨rfl, gapK hs4 false fun w5 hs5 hu5 => next _ hs5 (hu4.trans hu5)⟩
      · have hb : ¬ blank c = true := by rw [← blank_in]; exact fun e => by rw [show decide (c ∈ [32, 9, 10]) = true from e] at hb; cases hb
        have hg : y.gap = true := by simpa using hg
        rw [if_neg hb, if_neg (by rw [hh, hg]; decide)] at he
        rw [he] at next
        exact gapK hsp false fun w5 hs5 hu5 => next _ hs5 hu5
  · have hx : k = s.length := by have := of_decide_eq_false hx; omega
    subst hx
    rw [List.take_length] at hsp
    exact ⟨rfl, hsp, hu⟩
theorem take_spec (h : Spl w g ifs x) (p : Sg) (hs : x.size + 2 * p.text.length ≤ 900000) (hi : ifs.length ≤ 1000000) :
    Calls Tryd.prog fn_fields_splitter_take #[.pointer (some ⟨g, 0, none⟩), .agg #[.int .i64 (p.kind : Int), .string (S p.text)]] w (fun e w' => e = .returned (.tuple #[]) ∧ Spl w' g ifs (takeS ifs x p) ∧ Up g w w') := by
  refine fields_splitter_take_calls _ _ _ _ _ ?_
  have hcf := cur_few x
  refine allocK fun w1 hr1 hs1 hz1 => ⟨_, hr1.lget rfl, ?_⟩
  have h1 := h.still hs1
  have hu1 : Up g w w1 := Up.of hs1
  have hal := active_len p.text
  have hel := escape_len p.text
  refine bsel_of (fun hk => ⟨_, hr1.lget rfl, bsel_of (fun ht => ⟨_, hr1.lget rfl, ?_⟩) (fun ht => ?_)⟩) (fun hk => bsel_of (fun hk1 => ⟨_, hr1.lget rfl, ?_⟩) (fun hk1 => bsel_of (fun hk2 => ⟨_, hr1.lget rfl, ?_⟩) (fun hk2 => bsel_of (fun hk3 => ⟨_, h1.c4, bsel_of (fun hh => ?_) (fun hh => ?_)⟩) (fun hk3 => ?_))))
  · have hk : p.kind = 0 := by have := of_decide_eq_true hk; omega
    have ht : p.text ≠ [] := by simpa using ht
    have e : takeS ifs x p = x.put (active p.text) := by unfold takeS; rw [if_pos hk, if_neg ht]
    rw [e]
    refine (active_spec _ (by omega)).mono ?_
    rintro _ w2 ⟨rfl, hs2⟩
    refine .inl ⟨_, rfl, (put_spec (h1.still hs2) _ (by omega)).mono ?_⟩
    rintro _ w3 ⟨rfl, hs3, hu3⟩
    exact .inl ⟨rfl, rfl, hs3, (hu1.trans (Up.of hs2)).trans hu3⟩
  · have hk : p.kind = 0 := by have := of_decide_eq_true hk; omega
    have ht : p.text = [] := by simpa using ht
    have e : takeS ifs x p = x := by unfold takeS; rw [if_pos hk, if_pos ht]
    rw [e]
    exact ⟨rfl, h1, hu1⟩
  · have hk : ¬ p.kind = 0 := by have := of_decide_eq_false hk; omega
    have hk1 : p.kind = 1 := by have := of_decide_eq_true hk1; omega
    have e : takeS ifs x p = x.put (escape p.text) := by unfold takeS; rw [if_neg hk, if_pos hk1]
    rw [e]
    refine (escape_spec _ (by omega)).mono ?_
    rintro _ w2 ⟨rfl, hs2⟩
    refine .inl ⟨_, rfl, (put_spec (h1.still hs2) _ (by omega)).mono ?_⟩
    rintro _ w3 ⟨rfl, hs3, hu3⟩
    exact .inl ⟨rfl, rfl, hs3, (hu1.trans (Up.of hs2)).trans hu3⟩
  · have hk : ¬ p.kind = 0 := by have := of_decide_eq_false hk; omega
    have hk1 : ¬ p.kind = 1 := by have := of_decide_eq_false hk1; omega
    have hk2 : p.kind = 2 := by have := of_decide_eq_true hk2; omega
    have e : takeS ifs x p = splitS ifs x p.text := by unfold takeS; rw [if_neg hk, if_neg hk1, if_pos hk2]
    rw [e]
    refine (split_spec h1 _ (by omega) hi).mono ?_
    rintro _ w3 ⟨rfl, hs3, hu3⟩
    exact .inl ⟨rfl, rfl, hs3, hu1.trans hu3⟩
  · have hk : ¬ p.kind = 0 := by have := of_decide_eq_false hk; omega
    have hk1 : ¬ p.kind = 1 := by have := of_decide_eq_false hk1; omega
    have hk2 : ¬ p.kind = 2 := by have := of_decide_eq_false hk2; omega
    have hk3 : p.kind = 3 := by have := of_decide_eq_true hk3; omega
    have e : takeS ifs x p = x.fin.mark false := by unfold takeS; rw [if_neg hk, if_neg hk1, if_neg hk2, if_pos hk3, if_pos hh]
    rw [e]
    refine (end_spec h1 (by omega)).mono ?_
    rintro _ w3 ⟨rfl, hs3, hu3⟩
    exact .inl ⟨rfl, gapK hs3 false fun w5 hs5 hu5 => ⟨rfl, hs5, (hu1.trans hu3).trans hu5⟩⟩
  · have hk : ¬ p.kind = 0 := by have := of_decide_eq_false hk; omega
    have hk1 : ¬ p.kind = 1 := by have := of_decide_eq_false hk1; omega
    have hk2 : ¬ p.kind = 2 := by have := of_decide_eq_false hk2; omega
    have hk3 : p.kind = 3 := by have := of_decide_eq_true hk3; omega
    have e : takeS ifs x p = x.mark false := by unfold takeS; rw [if_neg hk, if_neg hk1, if_neg hk2, if_pos hk3, if_neg (by rw [hh]; decide)]
    rw [e]
    exact gapK h1 false fun w5 hs5 hu5 => ⟨rfl, hs5, hu1.trans hu5⟩
  · have hk : ¬ p.kind = 0 := by have := of_decide_eq_false hk; omega
    have hk1 : ¬ p.kind = 1 := by have := of_decide_eq_false hk1; omega
    have hk2 : ¬ p.kind = 2 := by have := of_decide_eq_false hk2; omega
    have hk3 : ¬ p.kind = 3 := by have := of_decide_eq_false hk3; omega
    have e : takeS ifs x p = x := by unfold takeS; rw [if_neg hk, if_neg hk1, if_neg hk2, if_neg hk3]
    rw [e]
    exact ⟨rfl, h1, hu1⟩
end
/-- How much text there is in pieces. -/
def big (l : List Sg) : Nat := (l.map fun p => 2 * p.text.length + 1).sum
theorem big_append (l m : List Sg) : big (l ++ m) = big l + big m := by simp [big]
theorem allS_snoc (ifs : Txt) (l : List Sg) (p : Sg) : allS ifs (l ++ [p]) = takeS ifs (allS ifs l) p := by simp [allS]
theorem allS_size (ifs : Txt) (l : List Sg) : (allS ifs l).size ≤ big l := by
  have : ∀ (l : List Sg) (x : St), (l.foldl (takeS ifs) x).size ≤ x.size + big l := by
    intro l
    induction l with
    | nil => intro x; exact Nat.le_refl _
    | cons p l ih =>
      intro x
      have h1 := takeS_size ifs x p
      have h2 := ih (takeS ifs x p)
      simp only [List.foldl_cons, big, List.map_cons, List.sum_cons] at h2 ⊢
      omega
  have := this l St.zero
  simp only [St.size, St.zero, List.map_nil, List.sum_nil, List.length_nil] at this
  unfold allS
  exact Nat.le_trans this (by omega)
theorem big_take {l : List Sg} {k : Nat} (h : k < l.length) : big (l.take k) + 2 * l[k].text.length + 1 ≤ big l := by
  have e : l = l.take k ++ l[k] :: l.drop (k + 1) := by rw [← List.drop_eq_getElem_cons h, List.take_append_drop]
  have : big l = big (l.take k) + big (l[k] :: l.drop (k + 1)) := (congrArg big e).trans (big_append _ _)
  rw [this]
  simp only [big, List.map_cons, List.sum_cons]
  omega
/-- A list of texts that is told. -/
def Told (w : World) (l : List Txt) (e : Ending) (w' : World) : Prop := ∃ q D, e = .returned (.slice q l.length D) ∧ StrsAt w' q l.length l ∧ Still w w'
theorem fields_spec {p : Option Addr} {n C : Nat} {l : List Sg} (h : SegsAt w p n l) (ifs : Txt) (hn : n ≤ 1000) (hl : big l ≤ 500000) (hi : ifs.length ≤ 1000000) :
    Calls Tryd.prog fn_fields_Fields #[.slice p n C, .string (S ifs)] w (Told w (fieldsR ifs l)) := by
  refine fields_Fields_calls _ _ _ _ _ _ ?_
  have h1 := h.1
  refine allocK fun w1 hr1 hs1 hz1 => ?_
  have h0 : Spl w1 w.heap.size ifs St.zero := ⟨none, .slice none 0 0, none, 0, BldAt.fresh hr1 rfl rfl, Owns.nil _ _ _ _⟩
  refine ⟨fun i w2 => ∃ k : Nat, i = (k : Int) ∧ k ≤ n ∧ Spl w2 w.heap.size ifs (allS ifs (l.take k)) ∧ Still w w2, fun i _ => n - i.toNat, ⟨0, rfl, Nat.zero_le _, h0, hs1⟩, ?_⟩
  rintro _ _ w2 ⟨k, rfl, hk, hsp, hst⟩
  have hsz := allS_size ifs (l.take k)
  refine bsel_of (fun hx => ?_) (fun hx => ?_)
  · have hx : k < n := by have := of_decide_eq_true hx; omega
    have e1 : IntKind.i64.wrap ((k : Int) + 1) = ((k + 1 : Nat) : Int) := by rw [wrap_i64 (by omega) (by omega)]; omega
    rw [e1]
    simp only [Int.toNat_natCast]
    obtain ⟨a, y, rfl, hy, c1, c2⟩ := (h.still hst).get hx
    have hyk : l[k]'(by omega) = y := (List.getElem?_eq_some_iff.1 hy).2
    have hbt := big_take (l := l) (k := k) (by omega)
    rw [hyk] at hbt
    refine ⟨by omega, by omega, _, _, c1, c2, boxK rfl (by simp [Value.oneCell']) fun w3 hr3 hs3 hz3 => ⟨_, _, hr3.lget rfl, hr3.lget rfl, ?_⟩⟩
    refine (take_spec (hsp.still hs3) y (by omega) hi).mono ?_
    rintro _ w4 ⟨rfl, hs4, hu4⟩
    refine .inl ⟨rfl, ⟨k + 1, rfl, hx, ?_, (hst.trans hs3).up hu4 (Nat.le_refl _)⟩, by omega⟩
    rw [take_snoc (by omega), allS_snoc, hyk]
    exact hs4
  · have hx : k = n := by have := of_decide_eq_false hx; omega
    subst hx
    rw [List.take_of_length_le (by omega)] at hsp hsz
    refine ⟨_, by have := hsp.c4; rwa [add_row] at this, bsel_of (fun hh => ?_) (fun hh => ?_)⟩
    · refine (end_spec hsp (by omega)).mono ?_
      rintro _ w4 ⟨rfl, hs4, hu4⟩
      obtain ⟨q, v, pa, co, hb, ho⟩ := hs4
      have e : fieldsR ifs l = (allS ifs l).fin.out := by unfold fieldsR endS; rw [if_pos hh]
      refine .inl ⟨rfl, _, _, _, hb.row.lget rfl, ?_⟩
      rw [Told, e]
      exact ⟨_, _, rfl, StrsAt.of ho, hst.up hu4 (Nat.le_refl _)⟩
    · obtain ⟨q, v, pa, co, hb, ho⟩ := hsp
      have e : fieldsR ifs l = (allS ifs l).out := by unfold fieldsR endS; rw [if_neg (by rw [hh]; decide)]
      refine ⟨_, _, _, hb.row.lget rfl, ?_⟩
      rw [Told, e]
      exact ⟨_, _, rfl, StrsAt.of ho, hst⟩
theorem joined_append (p : Bool) (l m : List Sg) : joined p (l ++ m) = joined p l ++ joined p m := by simp [joined]
theorem joinOne_len (p : Bool) (x : Sg) : (joinOne p x).length ≤ 2 * x.text.length + 1 := by
  have h1 := active_len x.text
  have h2 := escape_len x.text
  unfold joinOne
  repeat' split
  all_goals first | omega | (simp only [List.length_cons, List.length_nil]; omega)
theorem joined_len (p : Bool) : ∀ l : List Sg, (joined p l).length ≤ big l
  | [] => Nat.le_refl _
  | x :: l => by
    have h1 := joinOne_len p x
    have h2 := joined_len p l
    simp only [joined, List.flatMap_cons, List.length_append, big, List.map_cons, List.sum_cons] at h2 ⊢
    omega
theorem joined_spec {p : Option Addr} {n C : Nat} {l : List Sg} (h : SegsAt w p n l) (b : Bool) (hn : n ≤ 1000) (hl : big l ≤ 500000) :
    Calls Tryd.prog fn_fields_Joined #[.slice p n C, .bool b] w (fun e w' => e = .returned (.string (S (joined b l))) ∧ Still w w') := by
  refine fields_Joined_calls _ _ _ _ _ _ ?_
  have h1 := h.1
  refine allocK fun w1 hr1 hs1 hz1 => ?_
  have l1 : ∀ a b, LiesB 43 (([a, b] : List Value).length) 0 := fun _ _ => liesB_own
  refine ⟨fun i w2 => ∃ (k : Nat) (q : Option Addr) (v : Value), i = (k : Int) ∧ k ≤ n ∧ BldAt w2 43 w.heap.size 0 (w.heap.size + 1) [.pointer q, v] v (joined b (l.take k)) ∧ Still w w2, fun i _ => n - i.toNat,
    ⟨0, none, .slice none 0 0, rfl, Nat.zero_le _, BldAt.fresh hr1 rfl rfl, hs1⟩, ?_⟩
  rintro _ _ w2 ⟨k, q, v, rfl, hk, hb, hst⟩
  have hjl := joined_len b (l.take k)
  refine bsel_of (fun hx => ?_) (fun hx => ?_)
  · have hx : k < n := by have := of_decide_eq_true hx; omega
    have e1 : IntKind.i64.wrap ((k : Int) + 1) = ((k + 1 : Nat) : Int) := by rw [wrap_i64 (by omega) (by omega)]; omega
    rw [e1]
    simp only [Int.toNat_natCast]
    obtain ⟨a, y, rfl, hy, c1, c2⟩ := (h.still hst).get hx
    have hyk : l[k]'(by omega) = y := (List.getElem?_eq_some_iff.1 hy).2
    have hbt := big_take (l := l) (k := k) (by omega)
    rw [hyk] at hbt
    have hjs : joined b (l.take (k + 1)) = joined b (l.take k) ++ joinOne b y := by rw [take_snoc (by omega), joined_append, hyk]; simp [joined]
    have hj1 := joinOne_len b y
    have hal := active_len y.text
    have hel := escape_len y.text
    have next : ∀ w3 w4 v', Still w2 w3 → (∃ q', BldAt w4 43 w.heap.size 0 (w.heap.size + 1) [.pointer q', v'] v' (joined b (l.take k) ++ joinOne b y)) → Mod (fun i => i = w.heap.size ∨ v.ownBlock = some i) w3 w4 →
        ∃ (k' : Nat) (q' : Option Addr) (v' : Value), ((k + 1 : Nat) : Int) = (k' : Int) ∧ k' ≤ n ∧ BldAt w4 43 w.heap.size 0 (w.heap.size + 1) [.pointer q', v'] v' (joined b (l.take k')) ∧ Still w w4 := by
      rintro w3 w4 v' hs3 ⟨q', hb'⟩ hm
      refine ⟨k + 1, q', v', rfl, hx, by rw [hjs]; exact hb', Mod.trans (hst.trans hs3) hm (fun _ h => h) (fun i hi e => ?_)⟩
      rcases e with rfl | e
      · omega
      · have := hb.own.ownLt e; omega
    refine ⟨fun w5 => ∃ (k' : Nat) (q' : Option Addr) (v' : Value), ((k + 1 : Nat) : Int) = (k' : Int) ∧ k' ≤ n ∧ BldAt w5 43 w.heap.size 0 (w.heap.size + 1) [.pointer q', v'] v' (joined b (l.take k')) ∧ Still w w5,
      ⟨by omega, by omega, _, _, c1, c2, boxK rfl (by simp [Value.oneCell']) fun w3 hr3 hs3 hz3 => ⟨_, hr3.lget rfl, ?_⟩⟩, fun _ w5 h5 => ⟨h5, by omega⟩⟩
    have hb3 := hb.still hs3
    have hB3 := hb3.row.lt
    refine bsel_of (fun h3 => ?_) (fun h3 => ⟨fun c w4 => c = (b && decide (y.kind = 1)) ∧ w4 = w3, bsel_of (fun hbt => ⟨_, hr3.lget rfl, ?_, rfl⟩) (fun hbf => ⟨by rw [hbf]; rfl, rfl⟩), ?_⟩)
    · have h3 : y.kind = 3 := by have := of_decide_eq_true h3; omega
      have e : joinOne b y = [32] := by unfold joinOne; rw [if_pos h3]
      rw [e] at next
      refine (writeByte_spec hb3 (l1 _ _) 32 hB3 (by omega)).mono ?_
      rintro _ w4 ⟨rfl, v4, hb4, hm4⟩
      exact .inl ⟨_, rfl, rfl, next _ _ _ hs3 ⟨_, hb4⟩ hm4⟩
    · rw [hbt]
      simp only [Bool.true_and]
      by_cases hy1 : y.kind = 1
      · rw [decide_eq_true hy1, decide_eq_true (by omega)]
      · rw [decide_eq_false hy1, decide_eq_false (by omega)]
    have h3 : ¬ y.kind = 3 := by have := of_decide_eq_false h3; omega
    rintro c _ w4 ⟨rfl, rfl⟩
    refine bsel_of (fun hc => ⟨_, hr3.lget rfl, ?_⟩) (fun hc => bsel_of (fun hbt => ⟨_, hr3.lget rfl, ?_⟩) (fun hbf => ⟨_, hr3.lget rfl, ?_⟩))
    · obtain ⟨hc1, hc2⟩ := Bool.and_eq_true_iff.1 hc
      have hc2 := of_decide_eq_true hc2
      have e : joinOne b y = escape y.text := by unfold joinOne; rw [if_neg h3, if_pos hc1, if_pos hc2]
      rw [e] at next
      refine (escape_spec y.text (by omega)).mono ?_
      rintro _ w5 ⟨rfl, hs5⟩
      refine .inl ⟨_, rfl, (writeString_spec (hb3.still hs5) (l1 _ _) _ (hb3.still hs5).row.lt (by omega)).mono ?_⟩
      rintro _ w6 ⟨rfl, v6, hb6, hm6⟩
      exact .inl ⟨_, _, rfl, rfl, next _ _ _ (hs3.trans hs5) ⟨_, hb6⟩ hm6⟩
    · have hc2 : ¬ y.kind = 1 := by rw [hbt] at hc; simpa using hc
      have e : joinOne b y = active y.text := by unfold joinOne; rw [if_neg h3, if_pos hbt, if_neg hc2]
      rw [e] at next
      refine (active_spec y.text (by omega)).mono ?_
      rintro _ w5 ⟨rfl, hs5⟩
      refine .inl ⟨_, rfl, (writeString_spec (hb3.still hs5) (l1 _ _) _ (hb3.still hs5).row.lt (by omega)).mono ?_⟩
      rintro _ w6 ⟨rfl, v6, hb6, hm6⟩
      exact .inl ⟨_, _, rfl, rfl, next _ _ _ (hs3.trans hs5) ⟨_, hb6⟩ hm6⟩
    · have e : joinOne b y = y.text := by unfold joinOne; rw [if_neg h3, if_neg (by rw [hbf]; decide)]
      rw [e] at next
      refine (writeString_spec hb3 (l1 _ _) _ hb3.row.lt (by omega)).mono ?_
      rintro _ w6 ⟨rfl, v6, hb6, hm6⟩
      exact .inl ⟨_, _, rfl, rfl, next _ _ _ hs3 ⟨_, hb6⟩ hm6⟩
  · have hx : k = n := by have := of_decide_eq_false hx; omega
    subst hx
    rw [List.take_of_length_le (by omega)] at hb hjl
    refine (string_spec hb (by omega)).mono ?_
    rintro _ w3 ⟨rfl, hm3⟩
    exact .inl ⟨_, rfl, rfl, Mod.trans hst hm3 (fun _ h => h) (fun i hi e => by have := hb.own.ownLt e; omega)⟩
end Go.Proofs.YtfhdhokhddplhaaDoor
