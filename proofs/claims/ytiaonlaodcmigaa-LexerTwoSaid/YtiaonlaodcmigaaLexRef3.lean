/- The lexer's reference: tokens; when two lists of tokens are the same. Conditions: none on the text's length but the program's own. -/
import Derived.Test.YtiaonlaodcmigaaLexRef2
namespace Go.Proofs.Ytiaonlaodcmigaa
open Go.RowKit Vc
variable {w : World}

theorem endsB_drop {s : Txt} {n : Nat} (h : n < s.length) : endsB (s.drop n) = isEnd s[n] := by
  rw [List.drop_eq_getElem_cons h]
  rfl
/-- The loop's state: acc is told, the text behind n is left. -/
structure RS (w w1 : World) (s : Txt) (n : Nat) (acc : List Tok) (p : Option Addr) (C : Nat) : Prop where
  at' : n ≤ s.length
  li : Owns w1 w.heap.size 35 2 (.slice p acc.length C) acc.length (tc acc)
  still : Still w w1
  all : (toks (s.drop n)).map (acc ++ ·) = toks s
  few : acc.length + (s.length - n) ≤ s.length
theorem RS.quiet {w1 : World} {s t : Txt} {n m : Nat} {acc : List Tok} {p : Option Addr} {C : Nat} (h : RS w w1 s n acc p C) (hn : n < s.length) (hm : n < m) (hm2 : m ≤ s.length) (hone : tokOne s[n] (s.drop (n + 1)) = some ([], t)) (ht : t = s.drop m) : RS w w1 s m acc p C := by
  have hall := h.all
  have := h.few
  rw [List.drop_eq_getElem_cons hn, toks_cons, hone] at hall
  refine ⟨hm2, h.li, h.still, ?_, by omega⟩
  rw [← ht]
  simpa using hall
theorem RS.told {w1 w3 : World} {s t : Txt} {n m k : Nat} {acc : List Tok} {p p3 : Option Addr} {C C3 : Nat} {x : Txt} (h : RS w w1 s n acc p C) (hn : n < s.length) (hm : n < m) (hm2 : m ≤ s.length) (hone : tokOne s[n] (s.drop (n + 1)) = some ([(k, x)], t)) (ht : t = s.drop m)
    (ho3 : Owns w3 0 35 2 (Value.slice p3 (acc.length + 1) C3) (acc.length + 1) (tc acc ++ [.int .i64 (k : Int), .string (S x)])) {o : Obj} (hg : (w1.alloc o).grownBy w3 (Value.ownBlock (Value.slice p acc.length C)))
    (hb : Value.ownBlock (Value.slice p3 (acc.length + 1) C3) = Value.ownBlock (Value.slice p acc.length C) ∨ Value.ownBlock (Value.slice p3 (acc.length + 1) C3) = some (w1.alloc o).heap.size) : RS w w3 s m (acc ++ [(k, x)]) p3 C3 := by
  have hall := h.all
  have hfew := h.few
  rw [List.drop_eq_getElem_cons hn, toks_cons, hone] at hall
  have ho3' := h.li.pushed h.still.size ho3 hb
  have hl : (acc ++ [(k, x)]).length = acc.length + 1 := by simp
  refine ⟨hm2, ?_, h.still.pushed h.li (Nat.le_refl _) hg, ?_, by omega⟩
  · rw [hl, tc_append]
    exact ho3'
  · rw [← hall, ← ht]
    show _ = Option.map _ (Option.map _ (toks t))
    cases toks t <;> simp
set_option maxHeartbeats 2000000 in
theorem ref_tokens_spec (s : Txt) : Calls Try.prog fn_ref07_Tokens #[.string (S s)] w
    (fun e w' => ∃ p C, e = .returned (.tuple #[.slice p (tokRes s).1.length C, .int .i64 (tokRes s).2]) ∧ Owns w' w.heap.size 35 2 (.slice p (tokRes s).1.length C) (tokRes s).1.length (tc (tokRes s).1) ∧ Still w w') := by
  refine ref07_Tokens_calls _ _ _ ?_
  refine bsel_of (fun h20 => ?_) (fun h20 => ?_)
  · have h20 := of_decide_eq_true h20
    have hres : tokRes s = ([], 2) := by unfold tokRes; rw [if_pos (by omega)]
    rw [hres]
    exact ⟨none, 0, rfl, Owns.nil _ _ _ _, Mod.refl _ _⟩
  have h20 : ¬ 20000 < s.length := by have := of_decide_eq_false h20; omega
  refine ⟨fun p L C i w1 => ∃ n acc, i = ((n : Nat) : Int) ∧ L = acc.length ∧ RS w w1 s n acc p C, fun _ _ _ i _ => s.length - i.toNat, ⟨0, [], rfl, rfl, Nat.zero_le _, Owns.nil _ _ _ _, Mod.refl _ _, by simp, by simp⟩, ?_⟩
  rintro p _ C _ _ w1 ⟨n, acc, rfl, rfl, h⟩
  have hn := h.at'
  have hfew := h.few
  have wr : ∀ m : Nat, m ≤ s.length + 2 → IntKind.i64.wrap (m : Int) = (m : Int) := fun m hm => wrap_i64 (by omega) (by omega)
  refine bsel_of (fun hx => ?_) (fun hx => ?_)
  · have hx : n < s.length := by have := of_decide_eq_true hx; omega
    have hg : s[Int.toNat (n : Int)]? = some s[n] := by rw [Int.toNat_natCast]; exact getD_some hx
    have e1 : IntKind.i64.wrap ((n : Int) + 1) = ((n + 1 : Nat) : Int) := by rw [wrap_i64 (by omega) (by omega)]; omega
    rw [e1]
    have quiet : ∀ m, n < m → m ≤ s.length → tokOne s[n] (s.drop (n + 1)) = some ([], s.drop m) → (∃ n1 acc1, ((m : Nat) : Int) = ((n1 : Nat) : Int) ∧ acc.length = acc1.length ∧ RS w w1 s n1 acc1 p C) ∧ s.length - Int.toNat ((m : Nat) : Int) < s.length - Int.toNat (n : Int) := by
      intro m h1 h2 h3
      exact ⟨⟨m, acc, rfl, rfl, h.quiet hx h1 h2 h3 rfl⟩, by omega⟩
    refine ⟨by omega, _, hg, bsel_of (fun h32 => ?_) (fun h32 => ⟨by omega, _, hg, bsel_of (fun h9 => ?_) (fun h9 => ⟨by omega, _, hg, bsel_of (fun h35 => ?_) (fun h35 => ⟨by omega, _, hg, bsel_of (fun h10 => ?_) (fun h10 => ⟨by omega, _, hg, ?_⟩)⟩)⟩)⟩)⟩
    · exact quiet (n + 1) (by omega) hx (by unfold tokOne; rw [if_pos (.inl (byte_eq.1 (of_decide_eq_true h32)))])
    · exact quiet (n + 1) (by omega) hx (by unfold tokOne; rw [if_pos (.inr (byte_eq.1 (of_decide_eq_true h9)))])
    all_goals
      have n32 : ¬ s[n] = 32 := fun e => of_decide_eq_false h32 (byte_eq.2 e)
      have n9 : ¬ s[n] = 9 := fun e => of_decide_eq_false h9 (byte_eq.2 e)
      have hbl : ¬ (s[n] = 32 ∨ s[n] = 9) := fun e => e.elim n32 n9
    · have h35 : s[n] = 35 := byte_eq.1 (of_decide_eq_true h35)
      have hone : tokOne s[n] (s.drop (n + 1)) = some ([], lineEnd (s.drop n)) := by
        unfold tokOne
        rw [if_neg hbl, if_pos h35, List.drop_eq_getElem_cons hx]
        conv => rhs; rw [lineEnd, if_neg (by rw [h35]; decide)]
      refine ⟨fun i w2 => ∃ m : Nat, i = (m : Int) ∧ n ≤ m ∧ m ≤ s.length ∧ lineEnd (s.drop m) = lineEnd (s.drop n) ∧ w2 = w1, fun i _ => s.length - i.toNat, ⟨n, rfl, Nat.le_refl _, hn, rfl, rfl⟩, ?_⟩
      rintro _ _ w2 ⟨m, rfl, hnm, hm, hle, rfl⟩
      have e2 : IntKind.i64.wrap ((m : Int) + 1) = ((m + 1 : Nat) : Int) := by rw [wrap_i64 (by omega) (by omega)]; omega
      rw [e2]
      refine bsel_of (fun hy => ?_) (fun hy => ?_)
      · have hy : m < s.length := by have := of_decide_eq_true hy; omega
        have hgm : s[Int.toNat (m : Int)]? = some s[m] := by rw [Int.toNat_natCast]; exact getD_some hy
        have hdm := List.drop_eq_getElem_cons hy
        refine ⟨by omega, _, hgm, bsel_of (fun h10 => ?_) (fun h10 => ?_)⟩
        · have h10 : ¬ s[m] = 10 := fun e => by rw [Bool.not_eq_true'] at h10; exact of_decide_eq_false h10 (byte_eq.2 e)
          refine ⟨⟨m + 1, rfl, by omega, hy, ?_, rfl⟩, by dsimp only; omega⟩
          rw [← hle, hdm, lineEnd, if_neg h10]
        · have h10 : s[m] = 10 := by rw [Bool.not_eq_false'] at h10; exact byte_eq.1 (of_decide_eq_true h10)
          have hne : n ≠ m := by
            rintro rfl
            rw [h35] at h10
            cases h10
          refine quiet m (by omega) hm ?_
          rw [hone, ← hle, hdm, lineEnd, if_pos h10]
      · have hy : m = s.length := by have := of_decide_eq_false hy; omega
        refine quiet m (by omega) hm ?_
        rw [hone, ← hle, List.drop_of_length_le (by omega)]
        rfl
    all_goals
      have n35 : ¬ s[n] = 35 := fun e => of_decide_eq_false h35 (byte_eq.2 e)
    · have h10 : s[n] = 10 := byte_eq.1 (of_decide_eq_true h10)
      refine ⟨tc acc, [.int .i64 2, .string (S [10])], (h.li.alloc _).base0, rfl, two_one, pair_src _ _ _ _, by omega, by omega, fun p3 C3 w3 ho3 hg3 hb3 => ?_⟩
      exact ⟨⟨n + 1, acc ++ [(2, [10])], rfl, by simp, h.told hx (by omega) hx (by unfold tokOne; rw [if_neg hbl, if_neg n35, if_pos h10]) rfl ho3 hg3 hb3⟩, by dsimp only; omega⟩
    have n10 : ¬ s[n] = 10 := fun e => of_decide_eq_false h10 (byte_eq.2 e)
    refine (ref_ends_spec s[n]).mono ?_
    rintro _ w4 ⟨rfl, rfl⟩
    refine .inl ⟨_, rfl, bsel_of (fun hend => ?_) (fun hend => ?_)⟩
    · refine (ref_sign_spec s n hn (by omega)).mono ?_
      rintro _ w5 ⟨rfl, hm5⟩
      have hsg : (signL.find? fun t => pf t (s.drop n)).getD [] = (s[n] :: s.drop (n + 1)).take (opLen (s[n] :: s.drop (n + 1))) := by
        rw [List.drop_eq_getElem_cons hx]
        exact sign_is hend n32 n9 n10
      rw [hsg]
      have hol := opLen_le (a := s[n]) (r := s.drop (n + 1))
      have hll : (s[n] :: s.drop (n + 1)).length = s.length - n := by rw [← List.drop_eq_getElem_cons hx, List.length_drop]
      have htl : ((s[n] :: s.drop (n + 1)).take (opLen (s[n] :: s.drop (n + 1)))).length = opLen (s[n] :: s.drop (n + 1)) := by rw [List.length_take]; omega
      have h5 : RS w w5 s n acc p C := ⟨hn, h.li.mod hm5 (fun _ _ h => h), Mod.trans h.still hm5 (fun _ h => h) (fun _ _ h => h), h.all, hfew⟩
      refine .inl ⟨_, rfl, tc acc, [.int .i64 1, .string (S ((s[n] :: s.drop (n + 1)).take (opLen (s[n] :: s.drop (n + 1)))))], (h5.li.alloc _).base0, rfl, two_one, pair_src _ _ _ _, by omega, by omega, fun p3 C3 w6 ho6 hg6 hb6 => ?_⟩
      rw [htl]
      have e2 : IntKind.i64.wrap ((n : Int) + (opLen (s[n] :: s.drop (n + 1)) : Int)) = ((n + opLen (s[n] :: s.drop (n + 1)) : Nat) : Int) := by rw [wrap_i64 (by omega) (by omega)]; omega
      rw [e2]
      refine ⟨⟨_, acc ++ [(1, (s[n] :: s.drop (n + 1)).take (opLen (s[n] :: s.drop (n + 1))))], rfl, by simp, h5.told hx (by omega) (by omega) (t := (s[n] :: s.drop (n + 1)).drop (opLen (s[n] :: s.drop (n + 1)))) (by unfold tokOne; rw [if_neg hbl, if_neg n35, if_neg n10, if_pos hend]) ?_ ho6 hg6 hb6⟩, by dsimp only; omega⟩
      rw [← List.drop_eq_getElem_cons hx, List.drop_drop]
    · refine ⟨fun i w7 => ∃ m : Nat, i = (m : Int) ∧ n ≤ m ∧ m ≤ s.length ∧ wordD (s.drop m) = wordD (s.drop n) ∧ w7 = w4, fun i _ => s.length - i.toNat, ⟨n, rfl, Nat.le_refl _, hn, rfl, rfl⟩, ?_⟩
      rintro _ _ w7 ⟨m, rfl, hnm, hm, hwd, rfl⟩
      have hone : tokOne s[n] (s.drop (n + 1)) = match wordD (s.drop m) with
        | some t => some ([(0, (s.drop n).take ((s.drop n).length - t.length))], t)
        | none => none := by
        unfold tokOne
        rw [if_neg hbl, if_neg n35, if_neg n10, if_neg (by rw [hend]; decide), ← List.drop_eq_getElem_cons hx, hwd]
        cases wordD (s.drop n) <;> rfl
      refine ⟨fun x w9 => x = !endsB (s.drop m) ∧ w9 = w7, bsel_of (fun hy => ?_) (fun hy => ?_), ?_⟩
      · have hy : m < s.length := by have := of_decide_eq_true hy; omega
        have hgm : s[Int.toNat (m : Int)]? = some s[m] := by rw [Int.toNat_natCast]; exact getD_some hy
        refine ⟨by omega, _, hgm, (ref_ends_spec s[m]).mono ?_⟩
        rintro _ w8 ⟨rfl, rfl⟩
        exact .inl ⟨_, rfl, by rw [endsB_drop hy], rfl⟩
      · have hy : m = s.length := by have := of_decide_eq_false hy; omega
        refine ⟨?_, rfl⟩
        rw [List.drop_of_length_le (by omega)]
        rfl
      · rintro _ _ w9 ⟨rfl, rfl⟩
        refine bsel_of (fun he => ?_) (fun he => ?_)
        · have he : endsB (s.drop m) = false := by simpa using he
          have hy : m < s.length := by
            rcases Nat.lt_or_ge m s.length with h | h
            · exact h
            · rw [List.drop_of_length_le h] at he
              cases he
          refine (ref_skip_spec s m hy (by omega)).mono ?_
          rintro _ w10 ⟨rfl, rfl⟩
          refine .inl ⟨_, rfl, ?_⟩
          cases hu : unitD 30 (s.drop m) with
          | none =>
            refine bsel_of (fun _ => ?_) (fun h => by have := of_decide_eq_false h; simp [ix] at this)
            rw [wordD_none he hu] at hone
            have hall := h.all
            rw [List.drop_eq_getElem_cons hx, toks_cons, hone] at hall
            have hno : toks s = none := by rw [← hall]; rfl
            have hres : tokRes s = ([], 80) := by unfold tokRes; rw [if_neg h20, hno]
            rw [hres]
            exact ⟨none, 0, rfl, Owns.nil _ _ _ _, h.still⟩
          | some t =>
            have h1 := unitD_ends 30 _ _ hu
            have h2 := unitD_takes 30 _ _ hu
            rw [List.length_drop] at h2
            have h3 := h1.trans (drop_suf s m)
            have hle := h3.length_le
            refine bsel_of (fun h => ?_) (fun _ => ⟨⟨s.length - t.length, rfl, by omega, by omega, ?_, rfl⟩, ?_⟩)
            · have h := of_decide_eq_true h
              simp only [ix] at h
              omega
            · rw [← suf_drop h3, ← wordD_unit he hu, hwd]
            · simp only [ix]
              omega
        · have he : endsB (s.drop m) = true := by simpa using he
          rw [wordD_ends he] at hone
          have hnm2 : n ≠ m := by
            rintro rfl
            rw [endsB_drop hx] at he
            rw [he] at hend
            cases hend
          have hlen : (s.drop n).length - (s.drop m).length = m - n := by rw [List.length_drop, List.length_drop]; omega
          rw [show Int.toNat (m : Int) - Int.toNat (n : Int) = m - n by omega, Int.toNat_natCast]
          dsimp only at hone
          rw [hlen] at hone
          refine ⟨by omega, by omega, by omega, tc acc, [.int .i64 0, .string (S ((s.drop n).take (m - n)))], (h.li.alloc _).base0, rfl, two_one, pair_src _ _ _ _, by omega, by omega, fun p3 C3 w11 ho11 hg11 hb11 => ?_⟩
          exact ⟨⟨m, acc ++ [(0, (s.drop n).take (m - n))], rfl, by simp, h.told hx (by omega) hm hone rfl ho11 hg11 hb11⟩, by dsimp only; omega⟩
  · have hx : n = s.length := by have := of_decide_eq_false hx; omega
    have hall : toks s = some acc := by rw [← h.all, List.drop_of_length_le (by omega)]; simp [toks_nil]
    have hres : tokRes s = (acc, 0) := by unfold tokRes; rw [if_neg h20, hall]
    rw [hres]
    exact ⟨p, C, rfl, h.li, h.still⟩

/-- Tokens that may be read. -/
def TokAt (w : World) (p : Option Addr) (n : Nat) (l : List Tok) : Prop := l.length = n ∧ ∀ i x, l[i]? = some x → ∃ a, p = some a ∧ w.cell? (a.add (i * 2)) = some (.int .i64 (x.1 : Int)) ∧ w.cell? ((a.add (i * 2)).add 1) = some (.string (S x.2))
theorem tc_get : ∀ {l : List Tok} {i : Nat} {x : Tok}, l[i]? = some x → (tc l)[i * 2]? = some (.int .i64 (x.1 : Int)) ∧ (tc l)[i * 2 + 1]? = some (.string (S x.2))
  | a :: l, 0, x, h => by
    obtain rfl := Option.some.inj h
    exact ⟨rfl, rfl⟩
  | a :: l, i + 1, x, h => by
    have ih := tc_get (l := l) (i := i) (by simpa using h)
    rw [show (i + 1) * 2 = i * 2 + 2 by omega]
    exact ih
theorem TokAt.of_owns {B : Nat} {p : Option Addr} {C : Nat} {l : List Tok} (h : Owns w B 35 2 (.slice p l.length C) l.length (tc l)) : TokAt w p l.length l := by
  refine ⟨rfl, fun i x hx => ?_⟩
  have hi := (List.getElem?_eq_some_iff.1 hx).1
  obtain ⟨g, cap, he, _, _, _, hc⟩ := h.ownAddr (by omega)
  injection he with e1 e2 e3
  subst e1
  obtain ⟨h1, h2⟩ := tc_get hx
  refine ⟨_, rfl, ?_, ?_⟩
  · rw [add_row, Nat.zero_add]
    exact hc _ _ h1
  · rw [add_row, add_row, Nat.zero_add]
    exact hc _ _ h2
theorem TokAt.still {w w' : World} {p : Option Addr} {n : Nat} {l : List Tok} (h : TokAt w p n l) (hm : Still w w') : TokAt w' p n l := by
  refine ⟨h.1, fun i x hx => ?_⟩
  obtain ⟨a, h1, h2, h3⟩ := h.2 i x hx
  have cell : ∀ {a : Addr} {v : Value}, w.cell? a = some v → w'.cell? a = some v := fun h => (World.cell?_of_block (hm.block _ (World.block_lt_of_cell? _ _ h) (fun h => h))).trans h
  exact ⟨a, h1, cell h2, cell h3⟩
theorem same_spec {p q : Option Addr} {n m C D : Nat} {l k : List Tok} (hl : TokAt w p n l) (hk : TokAt w q m k) (hn : n < 1000000) :
    Calls Try.prog fn_ref07_Same #[.slice p n C, .slice q m D] w (fun e w' => e = .returned (.bool (decide (l = k))) ∧ Still w w') := by
  refine ref07_Same_calls _ _ _ _ _ _ _ _ ?_
  have hl1 := hl.1
  have hk1 := hk.1
  refine bsel_of (fun h => ?_) (fun h => ?_)
  · have h : ¬ (n : Int) = m := by rw [Bool.not_eq_true'] at h; exact of_decide_eq_false h
    refine ⟨?_, Mod.refl _ _⟩
    rw [decide_eq_false]
    rintro rfl
    omega
  have h : n = m := by rw [Bool.not_eq_false'] at h; have := of_decide_eq_true h; omega
  subst h
  refine ⟨fun i w1 => ∃ j : Nat, i = (j : Int) ∧ j ≤ n ∧ Still w w1 ∧ l.take j = k.take j, fun i _ => n - i.toNat, ⟨0, rfl, Nat.zero_le _, Mod.refl _ _, rfl⟩, ?_⟩
  rintro _ _ w1 ⟨j, rfl, hj, hst, ht⟩
  have e1 : IntKind.i64.wrap ((j : Int) + 1) = ((j + 1 : Nat) : Int) := by rw [wrap_i64 (by omega) (by omega)]; omega
  rw [e1]
  refine bsel_of (fun hx => ?_) (fun hx => ?_)
  · have hx : j < n := by have := of_decide_eq_true hx; omega
    have hlj : l[j]? = some l[j] := List.getElem?_eq_getElem (by omega)
    have hkj : k[j]? = some k[j] := List.getElem?_eq_getElem (by omega)
    obtain ⟨a, rfl, ha1, ha2⟩ := (hl.still hst).2 j _ hlj
    obtain ⟨b, rfl, hb1, hb2⟩ := (hk.still hst).2 j _ hkj
    refine ⟨by omega, by omega, _, _, by rw [Int.toNat_natCast]; exact ha1, by rw [Int.toNat_natCast]; exact ha2, by omega, by omega, _, _, by rw [Int.toNat_natCast]; exact hb1, by rw [Int.toNat_natCast]; exact hb2, bsel_of (fun h => ?_) (fun h => ?_)⟩
    · refine ⟨?_, hst.drew⟩
      rw [decide_eq_false]
      rintro rfl
      simp at h
    · have h : l[j] = k[j] := by
        rw [Bool.not_eq_false', Bool.and_true, Bool.and_eq_true] at h
        have h1 := of_decide_eq_true h.1
        have h2 := of_decide_eq_true h.2
        exact Prod.ext (by omega) h2
      refine ⟨⟨j + 1, rfl, hx, hst.drew, ?_⟩, by dsimp only; omega⟩
      rw [List.take_add_one, List.take_add_one, hlj, hkj, ht, h]
  · have hx : j = n := by have := of_decide_eq_false hx; omega
    subst hx
    refine ⟨?_, hst⟩
    rw [List.take_of_length_le (by omega), List.take_of_length_le (by omega)] at ht
    rw [decide_eq_true ht]
end Go.Proofs.Ytiaonlaodcmigaa
