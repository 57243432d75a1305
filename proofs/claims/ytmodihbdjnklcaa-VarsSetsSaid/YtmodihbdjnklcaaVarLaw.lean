/- Variables: the laws' own functions, and what the reference tells of lists. Conditions: as each theorem names them. -/
import Derived.Test.YtmodihbdjnklcaaVarRef
namespace Go.Proofs.Ytmodihbdjnklcaa
open Go.RowKit Vc Go.Shelf
variable {w : World}

/-! ### Lists of texts -/
def StrsAt (w : World) (p : Option Addr) (n : Nat) (l : List Txt) : Prop := l.length = n ∧ (0 < n → ∃ a, p = some a ∧ ∀ (j : Nat) (u : Value), (strs l)[j]? = some u → w.cell? (a.add j) = some u)
theorem strs_length (l : List Txt) : (strs l).length = l.length := by simp [strs]
theorem StrsAt.still {p : Option Addr} {n : Nat} {l : List Txt} {w' : World} (h : StrsAt w p n l) (hm : Still w w') : StrsAt w' p n l :=
  ⟨h.1, fun hn => by
    obtain ⟨a, h1, h2⟩ := h.2 hn
    exact ⟨a, h1, fun j u hu => hm.cell (h2 j u hu)⟩⟩
theorem StrsAt.of {B : Nat} {p : Option Addr} {n C : Nat} {l : List Txt} (h : Owns w B 9 1 (.slice p n C) n (strs l)) : StrsAt w p n l := by
  have h1 := h.length
  rw [strs_length] at h1
  refine ⟨by omega, fun hn => ?_⟩
  obtain ⟨g, cap, he, _, _, _, hc⟩ := h.ownAddr hn
  injection he with e1 e2 e3
  subst e1
  refine ⟨_, rfl, fun j u hu => ?_⟩
  rw [add_row, Nat.zero_add]
  exact hc j u hu
theorem StrsAt.row {g : Nat} {t : TypeId} {l : List Txt} (h : Row w g t ⟨strs l⟩) : StrsAt w (some ⟨g, 0, none⟩) l.length l :=
  ⟨rfl, fun _ => ⟨_, rfl, fun j u hu => by
    rw [add_row, Nat.zero_add]
    exact h.cellv (by simpa using hu)⟩⟩
theorem StrsAt.get {p : Option Addr} {n : Nat} {l : List Txt} (h : StrsAt w p n l) {k : Nat} (hk : k < n) : ∃ a, p = some a ∧ w.cell? (a.add k) = some (.string (S (l[k]'(by have := h.1; omega)))) := by
  obtain ⟨a, h1, h2⟩ := h.2 (by omega)
  refine ⟨a, h1, h2 k _ ?_⟩
  have := h.1
  simp [strs, show k < l.length by omega]
theorem take_snoc {α : Type} {l : List α} {k : Nat} (h : k < l.length) : l.take (k + 1) = l.take k ++ [l[k]] := by rw [List.take_add_one, getD_some h]; rfl
theorem same_spec {pa pb : Option Addr} {na nb Ca Cb : Nat} {la lb : List Txt} (ha : StrsAt w pa na la) (hb : StrsAt w pb nb lb) (hn : na < 1000000000) :
    Calls Try.prog fn_ref02_Same #[.slice pa na Ca, .slice pb nb Cb] w (fun e w' => e = .returned (.bool (decide (la = lb))) ∧ Still w w') := by
  refine ref02_Same_calls _ _ _ _ _ _ _ _ ?_
  have h1 := ha.1
  have h2 := hb.1
  refine bsel_of (fun hne => ?_) (fun he => ?_)
  · have hne : ((na : Nat) : Int) ≠ (nb : Nat) := by simpa using hne
    refine ⟨?_, Still.refl _⟩
    rw [decide_eq_false]
    rintro rfl
    omega
  have he : na = nb := by
    have : ((na : Nat) : Int) = (nb : Nat) := by simpa using he
    omega
  subst he
  refine ⟨fun i w1 => ∃ k : Nat, i = (k : Int) ∧ k ≤ na ∧ la.take k = lb.take k ∧ Still w w1, fun i _ => na - i.toNat, ⟨0, rfl, Nat.zero_le _, rfl, Still.refl _⟩, ?_⟩
  rintro _ _ w1 ⟨k, rfl, hk, hp, hst⟩
  refine bsel_of (fun hx => ?_) (fun hx => ?_)
  · have hx : k < na := by have := of_decide_eq_true hx; omega
    obtain ⟨a, rfl, c1⟩ := (ha.still hst).get hx
    obtain ⟨b, rfl, c2⟩ := (hb.still hst).get hx
    refine ⟨by omega, by omega, _, by rw [Int.toNat_natCast, Nat.mul_one]; exact c1, by omega, by omega, _, by rw [Int.toNat_natCast, Nat.mul_one]; exact c2, bsel_of (fun hq => ?_) (fun hq => ?_)⟩
    · have hq : la[k] ≠ lb[k] := by simpa using hq
      refine ⟨?_, hst.toDrew⟩
      rw [decide_eq_false]
      rintro rfl
      exact hq rfl
    · have hq : la[k] = lb[k] := by simpa using hq
      rw [wrap_i64 (by omega) (by omega)]
      refine ⟨⟨k + 1, by omega, hx, ?_, hst.toDrew⟩, by dsimp only; omega⟩
      rw [take_snoc (by omega), take_snoc (by omega), hp, hq]
  · have hx : k = na := by have := of_decide_eq_false hx; omega
    subst hx
    refine ⟨?_, hst⟩
    rw [List.take_of_length_le (by omega), List.take_of_length_le (by omega)] at hp
    rw [decide_eq_true hp]

/-! ### Lists of variables -/
theorem rsame_spec {pa pb : Option Addr} {na nb Ca Cb : Nat} {la lb : List Vr} (ha : VarAt w pa na Ca la) (hb : VarAt w pb nb Cb lb) (hn : na < 1000000000) :
    Calls Try.prog fn_ref12_Same #[.slice pa na Ca, .slice pb nb Cb] w (fun e w' => e = .returned (.bool (decide (la = lb))) ∧ Still w w') := by
  refine ref12_Same_calls _ _ _ _ _ _ _ _ ?_
  have h1 := ha.1
  have h2 := hb.1
  refine bsel_of (fun hne => ?_) (fun he => ?_)
  · have hne : ((na : Nat) : Int) ≠ (nb : Nat) := by simpa using hne
    refine ⟨?_, Still.refl _⟩
    rw [decide_eq_false]
    rintro rfl
    omega
  have he : na = nb := by
    have : ((na : Nat) : Int) = (nb : Nat) := by simpa using he
    omega
  subst he
  refine ⟨fun i w1 => ∃ k : Nat, i = (k : Int) ∧ k ≤ na ∧ la.take k = lb.take k ∧ Still w w1, fun i _ => na - i.toNat, ⟨0, rfl, Nat.zero_le _, rfl, Still.refl _⟩, ?_⟩
  rintro _ _ w1 ⟨k, rfl, hk, hp, hst⟩
  refine bsel_of (fun hx => ?_) (fun hx => ?_)
  · have hx : k < na := by have := of_decide_eq_true hx; omega
    obtain ⟨a, rfl, c1, c2, c3, c4⟩ := (ha.still hst).get (getD_some (p := la) (i := k) (by omega))
    obtain ⟨b, rfl, d1, d2, d3, d4⟩ := (hb.still hst).get (getD_some (p := lb) (i := k) (by omega))
    simp only [Int.toNat_natCast]
    refine ⟨by omega, by omega, _, _, _, _, c1, c2, c3, c4, by omega, by omega, _, _, _, _, d1, d2, d3, d4, bsel_of (fun hq => ?_) (fun hq => ?_)⟩
    · refine ⟨?_, hst.toDrew⟩
      rw [decide_eq_false]
      rintro rfl
      simp at hq
    · have hq : la[k] = lb[k] := by
        simp only [Bool.not_eq_false', Bool.and_eq_true, decide_eq_true_eq, and_true] at hq
        obtain ⟨q1, q2, q3, q4⟩ := hq
        generalize la[k] = x at *
        generalize lb[k] = y at *
        obtain ⟨x1, x2, x3, x4⟩ := x
        obtain ⟨y1, y2, y3, y4⟩ := y
        simp only at q1 q2 q3 q4
        subst q1 q2 q3 q4
        rfl
      rw [wrap_i64 (by omega) (by omega)]
      refine ⟨⟨k + 1, by omega, hx, ?_, hst.toDrew⟩, by omega⟩
      rw [take_snoc (by omega), take_snoc (by omega), hp, hq]
  · have hx : k = na := by have := of_decide_eq_false hx; omega
    subst hx
    refine ⟨?_, hst⟩
    rw [List.take_of_length_le (by omega), List.take_of_length_le (by omega)] at hp
    rw [decide_eq_true hp]
theorem renviron_spec {p : Option Addr} {n C : Nat} {l : List Vr} (h : VarAt w p n C l) (hn : n < 900000) (hb : ∀ v ∈ l, v.name.length + v.value.length < 9223372036854775806) : Calls Try.prog fn_ref12_Environ #[.slice p n C] w
    (fun e w' => ∃ q D, e = .returned (.slice q (environ l).length D) ∧ StrsAt w' q (environ l).length (environ l) ∧ Still w w') := by
  refine ref12_Environ_calls _ _ _ _ _ ?_
  have h1 := h.1
  refine ⟨fun q L D i w1 => ∃ k : Nat, i = (k : Int) ∧ k ≤ n ∧ L = (environ (l.take k)).length ∧ Owns w1 w.heap.size 9 1 (.slice q L D) L (strs (environ (l.take k))) ∧ Still w w1, fun _ _ _ i _ => n - i.toNat,
    ⟨0, rfl, Nat.zero_le _, rfl, Owns.nil _ _ _ _, Still.refl _⟩, ?_⟩
  rintro q _ D _ _ w1 ⟨k, rfl, hk, rfl, ho, hst⟩
  refine bsel_of (fun hx => ?_) (fun hx => ?_)
  · have hx : k < n := by have := of_decide_eq_true hx; omega
    have hkl : k < l.length := by omega
    obtain ⟨a, rfl, c1, c2, c3, c4⟩ := (h.still hst).get (getD_some hkl)
    have hstep := environ_step hkl
    have hfew := environ_few (l := l) k
    have e1 : IntKind.i64.wrap ((k : Int) + 1) = ((k + 1 : Nat) : Int) := by rw [wrap_i64 (by omega) (by omega)]; omega
    rw [e1]
    simp only [Int.toNat_natCast]
    refine ⟨by omega, by omega, _, c3, bsel_of (fun hex => ?_) (fun hex => ?_)⟩
    · rw [if_pos hex] at hstep
      have hbk := hb _ (List.getElem_mem hkl)
      refine ⟨fun w2 => w2 = w1.drew, rfl, by omega, by omega, _, fun w2 e => by subst e; exact c1, by simp only [List.length_cons, List.length_nil]; omega, by omega, by omega, _, fun w2 e => by subst e; exact c2, by simp only [List.length_append, List.length_cons, List.length_nil]; omega, ?_⟩
      refine push1 (w := w1.drew) ho hst.size rfl (one_one rfl) (by omega) (by omega) fun p' c' w3 ho3 hm3 => ?_
      refine ⟨⟨k + 1, rfl, hx, by rw [hstep, List.length_append]; rfl, ?_, hst.toDrew.own (w := w1.drew) ho (Nat.le_refl _) hm3⟩, by omega⟩
      rw [hstep, strs_append]
      exact ho3
    · rw [if_neg (by rw [hex]; decide), List.append_nil] at hstep
      refine ⟨⟨k + 1, rfl, hx, by rw [hstep], ?_, hst⟩, by omega⟩
      rw [hstep]
      exact ho
  · have hx : k = n := by have := of_decide_eq_false hx; omega
    subst hx
    rw [List.take_of_length_le (by omega)] at ho ⊢
    exact ⟨q, D, rfl, StrsAt.of ho, hst⟩
/-- Names that rise, and are names. -/
def Good (l : List Vr) : Prop := Rising l ∧ ∀ v ∈ l, isName v.name = true ∧ v.name.length ≤ 9223372036854775807
theorem right_spec {p : Option Addr} {n C : Nat} {l : List Vr} (h : VarAt w p n C l) (hn : n < 900000) (hg : Good l) : Calls Try.prog fn_ref12_Right #[.slice p n C] w (fun e w' => e = .returned (.bool true) ∧ Still w w') := by
  refine ref12_Right_calls _ _ _ _ _ ?_
  have h1 := h.1
  refine ⟨fun i w1 => ∃ k : Nat, i = (k : Int) ∧ k ≤ n ∧ Still w w1, fun i _ => n - i.toNat, ⟨0, rfl, Nat.zero_le _, Still.refl _⟩, ?_⟩
  rintro _ _ w1 ⟨k, rfl, hk, hst⟩
  refine bsel_of (fun hx => ?_) (fun hx => ⟨rfl, hst⟩)
  have hx : k < n := by have := of_decide_eq_true hx; omega
  have hkl : k < l.length := by omega
  have e1 : IntKind.i64.wrap ((k : Int) + 1) = ((k + 1 : Nat) : Int) := by rw [wrap_i64 (by omega) (by omega)]; omega
  rw [e1]
  have hnm := hg.2 _ (List.getElem_mem hkl)
  obtain ⟨a, rfl, c1, c2, c3, c4⟩ := (h.still hst).get (getD_some hkl)
  simp only [Int.toNat_natCast]
  refine ⟨Still w, hst.toDrew, by omega, by omega, _, fun w2 h2 => ?_, (risName_spec _ hnm.2).mono ?_⟩
  · obtain ⟨a', ha, d1, _⟩ := (h.still h2).get (getD_some hkl)
    obtain rfl := Option.some.inj ha
    exact d1
  rintro _ w2 ⟨rfl, rfl⟩
  rw [hnm.1]
  have next : (∃ j : Nat, ((k + 1 : Nat) : Int) = (j : Int) ∧ j ≤ n ∧ Still w w1.drew) ∧ n - (((k + 1 : Nat) : Int)).toNat < n - ((k : Int)).toNat := ⟨⟨k + 1, rfl, hx, hst.toDrew⟩, by omega⟩
  refine .inl ⟨_, rfl, hst.toDrew, bsel_of (fun h => by cases h) (fun _ => bsel_of (fun h0 => ?_) (fun _ => next))⟩
  have h0 : 0 < k := by have := of_decide_eq_true h0; omega
  have e2 : IntKind.i64.wrap ((k : Int) - 1) = ((k - 1 : Nat) : Int) := by rw [wrap_i64 (by omega) (by omega)]; omega
  rw [e2]
  have hkl' : k - 1 < l.length := by omega
  simp only [Int.toNat_natCast]
  refine ⟨by omega, by omega, l[k - 1].name, fun w2 h2 => ?_, by omega, by omega, l[k].name, fun w2 h2 => ?_, ?_⟩
  · obtain ⟨a', ha, d1, _⟩ := (h.still h2).get (getD_some hkl')
    obtain rfl := Option.some.inj ha
    exact d1
  · obtain ⟨a', ha, d1, _⟩ := (h.still h2).get (getD_some hkl)
    obtain rfl := Option.some.inj ha
    exact d1
  · have := List.pairwise_iff_getElem.1 hg.1 (k - 1) k hkl' hkl (by omega)
    rw [show Op.bytesLess _ _ = lt _ _ from rfl, this]
    exact next
end Go.Proofs.Ytmodihbdjnklcaa
