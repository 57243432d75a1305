/- Variables, the reference's side. Conditions: as each theorem names them. -/
import Derived.Test.YtgincpkggnndeaaGreatDoorVarSet
namespace Go.Proofs.YtgincpkggnndeaaGreatDoor
open Go.RowKit Vc Go.Shelf
variable {w : World}

theorem rletter_spec (c : UInt8) : Calls Tryz.prog fn_ref08_letter #[.int .u8 (c.toNat : Int)] w (fun e w' => e = .returned (.bool (letter c)) ∧ w' = w) := by
  refine ref08_letter_calls _ _ _ ?_
  unfold letter letterZ
  refine bsel_of (fun h1 => bsel_of (fun h2 => ⟨by simp [of_decide_eq_true h1, of_decide_eq_true h2], rfl⟩) (fun h2 => bsel_of (fun h3 => bsel_of (fun h4 => ⟨by simp [of_decide_eq_true h3, of_decide_eq_true h4], rfl⟩) (fun h4 => ⟨?_, rfl⟩)) (fun h3 => ⟨?_, rfl⟩)))
    (fun h1 => bsel_of (fun h3 => bsel_of (fun h4 => ⟨by simp [of_decide_eq_true h3, of_decide_eq_true h4], rfl⟩) (fun h4 => ⟨?_, rfl⟩)) (fun h3 => ⟨?_, rfl⟩))
  · rw [h1, h2, h3, h4]; rfl
  · rw [h1, h2, h3]; rfl
  · rw [h1, h3, h4]; rfl
  · rw [h1, h3]; rfl
theorem rdigit_spec (c : UInt8) : Calls Tryz.prog fn_ref08_digit #[.int .u8 (c.toNat : Int)] w (fun e w' => e = .returned (.bool (digit c)) ∧ w' = w) := by
  refine ref08_digit_calls _ _ _ ?_
  unfold digit digitZ
  exact bsel_of (fun h1 => ⟨by rw [h1]; rfl, rfl⟩) (fun h1 => ⟨by rw [h1]; rfl, rfl⟩)
theorem rname_spec (s : Txt) (hs : s.length ≤ 9223372036854775807) : Calls Tryz.prog fn_ref08_Name #[.string (S s)] w (fun e w' => e = .returned (.int .i64 (nameN true s : Int)) ∧ w' = w) := by
  refine ref08_Name_calls _ _ _ ?_
  refine ⟨fun n w1 => ∃ k : Nat, n = (k : Int) ∧ k ≤ s.length ∧ nameN true s = k + nameN (decide (k = 0)) (s.drop k) ∧ w1 = w, fun n _ => s.length - n.toNat, ⟨0, rfl, Nat.zero_le _, by simp, rfl⟩, ?_⟩
  rintro _ _ w1 ⟨k, rfl, hk, hn, rfl⟩
  refine bsel_of (fun hx => ?_) (fun hx => ?_)
  · have hx : k < s.length := by have := of_decide_eq_true hx; omega
    have hd : s.drop k = s[k] :: s.drop (k + 1) := List.drop_eq_getElem_cons hx
    have hg : s[Int.toNat (k : Int)]? = some s[k] := by rw [Int.toNat_natCast]; exact getD_some hx
    have e1 : IntKind.i64.wrap ((k : Int) + 1) = ((k + 1 : Nat) : Int) := by rw [wrap_i64 (by omega) (by omega)]; omega
    rw [e1]
    have stop : (letter s[k] || (!decide (k = 0) && digit s[k])) = false → nameN true s = k := by
      intro h
      rw [hn, hd, nameN, if_neg (by rw [h]; decide)]
      omega
    have go : (letter s[k] || (!decide (k = 0) && digit s[k])) = true → (∃ k1 : Nat, ((k + 1 : Nat) : Int) = (k1 : Int) ∧ k1 ≤ s.length ∧ nameN true s = k1 + nameN (decide (k1 = 0)) (s.drop k1) ∧ w1 = w1) ∧ s.length - Int.toNat ((k + 1 : Nat) : Int) < s.length - Int.toNat (k : Int) := by
      intro h
      refine ⟨⟨k + 1, rfl, hx, ?_, rfl⟩, by omega⟩
      rw [hn, hd, nameN, if_pos h, decide_eq_false (show ¬ k + 1 = 0 by omega)]
      omega
    refine ⟨by omega, _, hg, (rletter_spec _).mono ?_⟩
    rintro _ w2 ⟨rfl, rfl⟩
    refine .inl ⟨_, rfl, bsel_of (fun h => go (by rw [h]; rfl)) (fun h => bsel_of (fun h0 => ?_) (fun h0 => ?_))⟩
    · have h0 : ¬ k = 0 := by have := of_decide_eq_true h0; omega
      refine ⟨by omega, _, hg, (rdigit_spec _).mono ?_⟩
      rintro _ w3 ⟨rfl, rfl⟩
      refine .inl ⟨_, rfl, bsel_of (fun hd => go ?_) (fun hd => ⟨?_, rfl⟩)⟩
      · rw [hd, decide_eq_false h0]
        simp
      · rw [stop (by rw [h, hd, Bool.and_false]; rfl)]
    · have h0 : k = 0 := by have := of_decide_eq_false h0; omega
      refine ⟨?_, rfl⟩
      rw [stop (by rw [h, decide_eq_true h0]; rfl)]
  · have hx : k = s.length := by have := of_decide_eq_false hx; omega
    refine ⟨?_, rfl⟩
    subst hx
    rw [hn, List.drop_length, nameN, Nat.add_zero]
theorem risName_spec (s : Txt) (hs : s.length ≤ 9223372036854775807) : Calls Tryz.prog fn_ref12_IsName #[.string (S s)] w (fun e w' => e = .returned (.bool (isName s)) ∧ w' = w) := by
  refine ref12_IsName_calls _ _ _ ?_
  unfold isName
  refine bsel_of (fun h => (rname_spec s hs).mono ?_) (fun h => ⟨by rw [h]; rfl, rfl⟩)
  rintro _ w1 ⟨rfl, rfl⟩
  refine .inl ⟨_, rfl, ?_, rfl⟩
  rw [h, Bool.true_and]
  congr 2
  apply decide_eq_decide.2
  omega
section
variable {p : Option Addr} {n C : Nat} {l : List Vr}
theorem getD_none {s : Txt} {l : List Vr} (h : (get s l).isSome = false) : getD s l = Vr.zero ∧ get s l = none := by
  cases hg : get s l with
  | none => exact ⟨by rw [getD, hg]; rfl, rfl⟩
  | some v => rw [hg] at h; cases h
theorem rfind_spec (h : VarAt w p n C l) (hn : n < 1000000) (s : Txt) : Calls Tryz.prog fn_ref12_find #[.slice p n C, .string (S s)] w (fun e w' => e = .returned (.tuple #[.int .i64 (pos s l : Int), .bool (get s l).isSome]) ∧ Still w w') := by
  refine ref12_find_calls _ _ _ _ _ _ ?_
  have hl := h.1
  have hpl := pos_le s l
  have fin : ∀ w1, Still w w1 → bsel (decide ((pos s l : Int) < ((n : Nat) : Int))) (0 ≤ (pos s l : Int) ∧ (pos s l : Int) < (n : Nat) ∧ someK p (fun a1 => ∃ v1 : List UInt8, w1.cell? (a1.add (Int.toNat (pos s l : Int) * 4)) = some (.string (S v1)) ∧ (Ending.returned (.tuple #[(.int .i64 (pos s l : Int)), (.bool (decide (v1 = s)))]) = Ending.returned (.tuple #[.int .i64 (pos s l : Int), .bool (get s l).isSome]) ∧ Still w w1.drew))) (Ending.returned (.tuple #[(.int .i64 (pos s l : Int)), (.bool false)]) = Ending.returned (.tuple #[.int .i64 (pos s l : Int), .bool (get s l).isSome]) ∧ Still w w1.drew) := by
    intro w1 hst
    have hgp := get_pos s l
    refine bsel_of (fun hy => ?_) (fun hy => ?_)
    · have hy : pos s l < n := by have := of_decide_eq_true hy; omega
      have hg := getD_some (p := l) (i := pos s l) (by omega)
      obtain ⟨q, rfl, c1, c2, c3, c4⟩ := (h.still hst).get hg
      refine ⟨by omega, by omega, _, by rw [Int.toNat_natCast]; exact c1, ?_, hst.drew⟩
      rw [hgp, hg]
      dsimp only
      by_cases he : l[pos s l].name = s
      · rw [decide_eq_true he, if_pos he]; rfl
      · rw [decide_eq_false he, if_neg he]; rfl
    · have hy : ¬ pos s l < n := by have := of_decide_eq_false hy; omega
      refine ⟨?_, hst.drew⟩
      rw [hgp, List.getElem?_eq_none (by omega)]
      rfl
  refine ⟨fun k w1 => ∃ a : Nat, k = (a : Int) ∧ a ≤ pos s l ∧ Still w w1, fun k _ => n - k.toNat, ⟨0, rfl, Nat.zero_le _, Mod.refl _ _⟩, ?_⟩
  rintro _ _ w1 ⟨k, rfl, hk, hst⟩
  have e1 : IntKind.i64.wrap ((k : Int) + 1) = ((k + 1 : Nat) : Int) := by rw [wrap_i64 (by omega) (by omega)]; omega
  rw [e1]
  refine bsel_of (fun hx => ?_) (fun hx => ?_)
  · have hx : k < n := by have := of_decide_eq_true hx; omega
    have hg := getD_some (p := l) (i := k) (by omega)
    obtain ⟨q, rfl, c1, c2, c3, c4⟩ := (h.still hst).get hg
    refine ⟨by omega, by omega, _, by rw [Int.toNat_natCast]; exact c1, bsel_of (fun hlt => ?_) (fun hlt => ?_)⟩
    · refine ⟨⟨k + 1, rfl, ?_, hst⟩, by dsimp only; omega⟩
      rcases Nat.lt_or_ge k (pos s l) with h | h
      · exact h
      · have : k = pos s l := by omega
        subst this
        have := at_pos (n := s) (l := l) hg
        rw [show Op.bytesLess _ _ = lt _ _ from rfl, this] at hlt
        cases hlt
    · have hkp : k = pos s l := by
        rcases Nat.lt_or_ge k (pos s l) with h | h
        · have := lt_pos hg h
          rw [show Op.bytesLess _ _ = lt _ _ from rfl, this] at hlt
          cases hlt
        · omega
      subst hkp
      exact fin w1 hst
  · have hkp : k = pos s l := by have := of_decide_eq_false hx; omega
    subst hkp
    exact fin w1 hst
theorem rget_spec (h : VarAt w p n C l) (hn : n < 1000000) (s : Txt) :
    Calls Tryz.prog fn_ref12_Get #[.slice p n C, .string (S s)] w (fun e w' => e = .returned (.tuple #[.agg #[.string (S (getD s l).name), .string (S (getD s l).value), .bool (getD s l).exp, .bool (getD s l).ro], .bool (get s l).isSome]) ∧ Still w w') := by
  refine ref12_Get_calls _ _ _ _ _ _ ?_
  unfold vc_ref12_Get
  obtain ⟨w0, hw0, hr0, hst0, hs0⟩ := newbox w
  rw [← hw0]
  refine (rfind_spec (h.still hst0) hn s).mono ?_
  rintro _ w1 ⟨rfl, h1⟩
  have hr1 : Row w1 w.heap.size 31 ⟨vcell Vr.zero⟩ := hr0.mod h1 (fun h => h)
  have hst1 := hst0.trans h1
  refine .inl ⟨_, _, rfl, bsel_of (fun hb => ?_) (fun hb => ?_)⟩
  · have hb : (get s l).isSome = false := by simpa using hb
    obtain ⟨w2, hw2, d1, d2, d3, d4, hr2, hm2⟩ := put4 hr1 (.string (S ([] : List UInt8))) (.string (S ([] : List UInt8))) (.bool false) (.bool false)
    refine ⟨d1, d2, d3, d4, ?_⟩
    rw [← hw2]
    refine ⟨_, _, _, _, hr2.cellv rfl, hr2.cellv rfl, hr2.cellv rfl, hr2.cellv rfl, ?_, hst1.box (Nat.le_refl _) hm2⟩
    rw [(getD_none hb).1, hb]
    rfl
  · have hb : (get s l).isSome = true := by simpa using hb
    obtain ⟨hk, he⟩ := getD_at hb
    obtain ⟨a, rfl, c1, c2, c3, c4⟩ := (h.still hst1).get (getD_some hk)
    have hl := h.1
    obtain ⟨w2, hw2, d1, d2, d3, d4, hr2, hm2⟩ := put4 hr1 (.string (S l[pos s l].name)) (.string (S l[pos s l].value)) (.bool l[pos s l].exp) (.bool l[pos s l].ro)
    refine ⟨by omega, by omega, _, _, _, _, by rw [Int.toNat_natCast]; exact c1, by rw [Int.toNat_natCast]; exact c2, by rw [Int.toNat_natCast]; exact c3, by rw [Int.toNat_natCast]; exact c4, d1, d2, d3, d4, ?_⟩
    rw [← hw2]
    refine ⟨_, _, _, _, hr2.cellv rfl, hr2.cellv rfl, hr2.cellv rfl, hr2.cellv rfl, ?_, hst1.box (Nat.le_refl _) hm2⟩
    rw [he, hb]
/-- The reference's put. -/
theorem rput_spec (h : VarAt w p n C l) (hn : n < 900000) (x : Vr) : Calls Tryz.prog fn_ref12_put #[.slice p n C, .agg #[.string (S x.name), .string (S x.value), .bool x.exp, .bool x.ro]] w (fun e w' => ∃ q D, e = .returned (.slice q (ins x l).length D) ∧ VarAt w' q (ins x l).length D (ins x l) ∧ Still w w') := by
  refine ref12_put_calls _ _ _ _ _ _ _ _ _ ?_
  have hb0 : Row (w.alloc (.cells ⟨vcell x⟩ 31)) w.heap.size 31 ⟨vcell x⟩ := Row.new _ _ _
  have hst0 : Still w (w.alloc (.cells ⟨vcell x⟩ 31)) := (Mod.refl _ _).alloc _
  refine ⟨_, hb0.cellv rfl, (rfind_spec (h.still hst0) (by omega) x.name).mono ?_⟩
  rintro _ w1 ⟨rfl, h1⟩
  have hst1 := hst0.trans h1
  have hb1 := hb0.mod h1 (fun h => h)
  have hv1 := h.still hst1
  have hl := h.1
  have hC := h.2.1
  have hpl := pos_le x.name l
  refine .inl ⟨_, _, rfl, by omega, by omega, ?_⟩
  simp only [Int.toNat_natCast, Nat.zero_add]
  have ht := hv1.take (k := pos x.name l) (by omega)
  refine ⟨[], vcs (l.take (pos x.name l)), Owns.nil _ _ _ _, by rw [vcs_length, ht.1], vcs_one _, ht.2.2, by omega, by omega, fun p2 C2 w2 ho2 hg2 hbk2 => ?_⟩
  rw [List.nil_append] at ho2
  have ho2 := (Owns.nil w1 w1.heap.size 31 4).grew (Nat.le_refl _) ho2 hbk2
  have h2 : Still w1 w2 := Still.grew (Mod.refl _ _) (Owns.nil w1 w1.heap.size 31 4) (Nat.le_refl _) hg2
  have hb2 := hb1.mod h2 (fun h => h)
  refine ⟨_, _, _, _, hb2.cellv rfl, hb2.cellv rfl, hb2.cellv rfl, hb2.cellv rfl, vcs (l.take (pos x.name l)), vcell x, (ho2.alloc _).base0, rfl, vcell_one x, ?_, by omega, by omega, fun p3 C3 w3 ho3 hg3 hbk3 => ?_⟩
  · refine fun _ => ⟨_, rfl, fun j u hu => ?_⟩
    rw [add_row, Nat.zero_add]
    exact (Row.new w2 31 ⟨vcell x⟩).cellv (by simpa using hu)
  have ho3' := ho2.pushed h2.size ho3 hbk3
  have h3 : Still w1 w3 := h2.pushed ho2 (Nat.le_refl _) hg3
  refine ⟨fun k w4 => k = ((pos x.name l + (if (get x.name l).isSome = true then 1 else 0) : Nat) : Int) ∧ pos x.name l + (if (get x.name l).isSome = true then 1 else 0) ≤ n ∧ w4 = w3, bsel_of (fun hb => ?_) (fun hb => ?_), ?_⟩
  · obtain ⟨hk, _⟩ := getD_at hb
    rw [if_pos hb]
    exact ⟨by rw [wrap_i64 (by omega) (by omega)]; omega, by omega, rfl⟩
  · rw [if_neg (by rw [hb]; decide)]
    exact ⟨by omega, by omega, rfl⟩
  rintro _ _ w4 ⟨rfl, hkn, rfl⟩
  rw [Int.toNat_natCast]
  have hd := (hv1.still h3).drop (k := pos x.name l + (if (get x.name l).isSome = true then 1 else 0)) hkn
  refine ⟨by omega, by omega, _, vcs (l.drop (pos x.name l + (if (get x.name l).isSome = true then 1 else 0))), ho3'.base0, by rw [vcs_length, hd.1], vcs_one _, hd.2.2, by omega, by omega, fun p5 C5 w5 ho5 hg5 hbk5 => ?_⟩
  have hil := ins_length x l
  have hlen : pos x.name l + 1 + (n - (pos x.name l + (if (get x.name l).isSome = true then 1 else 0))) = (ins x l).length := by
    rw [hil]
    by_cases hq : (get x.name l).isSome = true
    · simp only [if_pos hq] at hkn ⊢
      omega
    · simp only [if_neg hq] at hkn ⊢
      omega
  rw [hlen] at ho5 ⊢
  have hcells : vcs (l.take (pos x.name l)) ++ vcell x ++ vcs (l.drop (pos x.name l + (if (get x.name l).isSome = true then 1 else 0))) = vcs (ins x l) := by
    rw [← put_eq x l, vcs_append, vcs_append]
    simp [vcs]
  rw [hcells] at ho5
  exact ⟨p5, C5, rfl, VarAt.of ho5, hst1.trans (h3.grew ho3' (Nat.le_refl _) hg5)⟩
theorem rset_spec (h : VarAt w p n C l) (hn : n < 900000) (s x : Txt) (hsl : s.length ≤ 9223372036854775807) : Calls Tryz.prog fn_ref12_Set #[.slice p n C, .string (S s), .string (S x)] w (Gave w (setR l s x)) := by
  refine ref12_Set_calls _ _ _ _ _ _ _ ?_
  refine (risName_spec s hsl).mono ?_
  rintro _ w1 ⟨rfl, rfl⟩
  refine .inl ⟨_, rfl, bsel_of (fun hnm => ?_) (fun hnm => ?_)⟩
  · have hnm : isName s = false := by simpa using hnm
    have e : setR l s x = ([], 1) := by unfold setR; rw [if_neg (by rw [hnm]; decide)]
    rw [e]
    exact ⟨none, 0, rfl, VarAt.nil _, Mod.refl _ _⟩
  have hnm : isName s = true := by simpa using hnm
  refine (rget_spec h (by omega) s).mono ?_
  rintro _ w2 ⟨rfl, h2⟩
  refine .inl ⟨_, _, _, _, _, rfl, ?_⟩
  obtain ⟨w0, hw0, hr0, hst0, hs0⟩ := newbox w2
  rw [← hw0]
  obtain ⟨w3, hw3, d1, d2, d3, d4, hr3, hm3⟩ := put4 hr0 (.string (S (getD s l).name)) (.string (S (getD s l).value)) (.bool (getD s l).exp) (.bool (getD s l).ro)
  refine ⟨d1, d2, d3, d4, ?_⟩
  rw [← hw3]
  have hst3 : Still w1 w3 := (h2.trans hst0).box h2.size hm3
  refine ⟨_, hr3.cellv rfl, bsel_of (fun hro => ?_) (fun hro => ?_)⟩
  · have e : setR l s x = ([], 150) := by unfold setR; rw [if_pos hnm, if_pos hro]
    rw [e]
    exact ⟨none, 0, rfl, VarAt.nil _, hst3⟩
  have e : setR l s x = (ins ⟨s, x, (getD s l).exp, (getD s l).ro⟩ l, 0) := by unfold setR; rw [if_pos hnm, if_neg (by rw [hro]; decide)]
  rw [e]
  have hr4 := hr3.setl 0 (.string (S s))
  have hr5 := hr4.setl 1 (.string (S x))
  have hst5 := (hst3.setCell (p := Addr.mk w2.heap.size 0 none) (.inr h2.size) (.string (S s))).setCell (p := Addr.mk w2.heap.size 1 none) (.inr h2.size) (.string (S x))
  refine ⟨hr3.wr 0 (by simp), hr4.wr 1 (by simp), _, _, _, _, hr5.cellv rfl, hr5.cellv rfl, hr5.cellv rfl, hr5.cellv rfl, (rput_spec (h.still hst5) hn ⟨s, x, (getD s l).exp, (getD s l).ro⟩).mono ?_⟩
  rintro _ w6 ⟨q, D, rfl, hv, h6⟩
  exact .inl ⟨_, _, _, rfl, q, D, rfl, hv, Still.trans hst5 h6⟩
theorem rmark_spec (h : VarAt w p n C l) (hn : n < 900000) (s : Txt) (x y : Bool) (hsl : s.length ≤ 9223372036854775807) : Calls Tryz.prog fn_ref12_Mark #[.slice p n C, .string (S s), .bool x, .bool y] w (Gave w (markR l s x y)) := by
  refine ref12_Mark_calls _ _ _ _ _ _ _ _ ?_
  refine (risName_spec s hsl).mono ?_
  rintro _ w1 ⟨rfl, rfl⟩
  refine .inl ⟨_, rfl, bsel_of (fun hnm => ?_) (fun hnm => ?_)⟩
  · have hnm : isName s = false := by simpa using hnm
    have e : markR l s x y = ([], 1) := by unfold markR; rw [if_neg (by rw [hnm]; decide)]
    rw [e]
    exact ⟨none, 0, rfl, VarAt.nil _, Mod.refl _ _⟩
  have hnm : isName s = true := by simpa using hnm
  refine (rget_spec h (by omega) s).mono ?_
  rintro _ w2 ⟨rfl, h2⟩
  refine .inl ⟨_, _, _, _, _, rfl, ?_⟩
  obtain ⟨w0, hw0, hr0, hst0, hs0⟩ := newbox w2
  rw [← hw0]
  obtain ⟨w3, hw3, d1, d2, d3, d4, hr3, hm3⟩ := put4 hr0 (.string (S (getD s l).name)) (.string (S (getD s l).value)) (.bool (getD s l).exp) (.bool (getD s l).ro)
  refine ⟨d1, d2, d3, d4, ?_⟩
  rw [← hw3]
  have hst3 : Still w1 w3 := (h2.trans hst0).box h2.size hm3
  have e : markR l s x y = (ins ⟨s, (getD s l).value, (getD s l).exp || x, (getD s l).ro || y⟩ l, 0) := by unfold markR; rw [if_pos hnm]
  rw [e]
  have hr4 := hr3.setl 0 (.string (S s))
  have fin : ∀ a b : Bool, a = ((getD s l).exp || x) → b = ((getD s l).ro || y) → Wr w3 (Addr.mk w2.heap.size 0 none) ∧ Wr (w3.setCell (Addr.mk w2.heap.size 0 none) (.string (S s))) (Addr.mk w2.heap.size 2 none) ∧ Wr ((w3.setCell (Addr.mk w2.heap.size 0 none) (.string (S s))).setCell (Addr.mk w2.heap.size 2 none) (.bool a)) (Addr.mk w2.heap.size 3 none) ∧
      (Row (((w3.setCell (Addr.mk w2.heap.size 0 none) (.string (S s))).setCell (Addr.mk w2.heap.size 2 none) (.bool a)).setCell (Addr.mk w2.heap.size 3 none) (.bool b)) w2.heap.size 31 ⟨vcell ⟨s, (getD s l).value, (getD s l).exp || x, (getD s l).ro || y⟩⟩ ∧ Still w1 (((w3.setCell (Addr.mk w2.heap.size 0 none) (.string (S s))).setCell (Addr.mk w2.heap.size 2 none) (.bool a)).setCell (Addr.mk w2.heap.size 3 none) (.bool b))) := by
    rintro a b rfl rfl
    have hr5 := hr4.setl 2 (.bool ((getD s l).exp || x))
    have hr6 := hr5.setl 3 (.bool ((getD s l).ro || y))
    exact ⟨hr3.wr 0 (by simp), hr4.wr 2 (by simp), hr5.wr 3 (by simp), hr6, ((hst3.setCell (p := Addr.mk w2.heap.size 0 none) (.inr h2.size) _).setCell (p := Addr.mk w2.heap.size 2 none) (.inr h2.size) _).setCell (p := Addr.mk w2.heap.size 3 none) (.inr h2.size) _⟩
  refine ⟨fun w4 => Row w4 w2.heap.size 31 ⟨vcell ⟨s, (getD s l).value, (getD s l).exp || x, (getD s l).ro || y⟩⟩ ∧ Still w1 w4, ⟨_, hr3.cellv rfl, bsel_of (fun hex => ⟨_, hr3.cellv rfl, bsel_of (fun hro => fin true true (by rw [hex]; rfl) (by rw [hro]; rfl)) (fun hro => fin true y (by rw [hex]; rfl) (by rw [hro]; rfl))⟩) (fun hex => ⟨_, hr3.cellv rfl, bsel_of (fun hro => fin x true (by rw [hex]; rfl) (by rw [hro]; rfl)) (fun hro => fin x y (by rw [hex]; rfl) (by rw [hro]; rfl))⟩)⟩, ?_⟩
  rintro _ w4 ⟨hr5, hst5⟩
  refine ⟨_, _, _, _, hr5.cellv rfl, hr5.cellv rfl, hr5.cellv rfl, hr5.cellv rfl, (rput_spec (h.still hst5) hn ⟨s, (getD s l).value, (getD s l).exp || x, (getD s l).ro || y⟩).mono ?_⟩
  rintro _ w6 ⟨q, D, rfl, hv, h6⟩
  exact .inl ⟨_, _, _, rfl, q, D, rfl, hv, hst5.trans h6⟩
end
end Go.Proofs.YtgincpkggnndeaaGreatDoor
