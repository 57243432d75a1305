/- Variables: two lists compared; lists that acts make. Conditions: as each theorem names them. -/
import Derived.Test.YtgincpkggnndeaaGreatDoorArFin2
import Derived.Test.YtgincpkggnndeaaGreatDoorStrs
namespace Go.Proofs.YtgincpkggnndeaaGreatDoor
open Go.RowKit Vc Go.Shelf
variable {w : World}

theorem rsame_spec {pa pb : Option Addr} {na nb Ca Cb : Nat} {la lb : List Vr} (ha : VarAt w pa na Ca la) (hb : VarAt w pb nb Cb lb) (hn : na < 1000000000) :
    Calls Tryz.prog fn_ref12_Same #[.slice pa na Ca, .slice pb nb Cb] w (fun e w' => e = .returned (.bool (decide (la = lb))) ∧ Still w w') := by
  refine ref12_Same_calls _ _ _ _ _ _ _ _ ?_
  have h1 := ha.1
  have h2 := hb.1
  refine bsel_of (fun hne => ?_) (fun he => ?_)
  · have hne : ((na : Nat) : Int) ≠ (nb : Nat) := by simpa using hne
    refine ⟨?_, Still.refl _⟩
    rw [decide_eq_false]
    rintro rfl
    omega
  have he : na = nb := by
    have : ((na : Nat) : Int) = (nb : Nat) := by simpa using he
    omega
  subst he
  refine ⟨fun i w1 => ∃ k : Nat, i = (k : Int) ∧ k ≤ na ∧ la.take k = lb.take k ∧ Still w w1, fun i _ => na - i.toNat, ⟨0, rfl, Nat.zero_le _, rfl, Still.refl _⟩, ?_⟩
  rintro _ _ w1 ⟨k, rfl, hk, hp, hst⟩
  refine bsel_of (fun hx => ?_) (fun hx => ?_)
  · have hx : k < na := by have := of_decide_eq_true hx; omega
    obtain ⟨a, rfl, c1, c2, c3, c4⟩ := (ha.still hst).get (getD_some (p := la) (i := k) (by omega))
    obtain ⟨b, rfl, d1, d2, d3, d4⟩ := (hb.still hst).get (getD_some (p := lb) (i := k) (by omega))
    simp only [Int.toNat_natCast]
    refine ⟨by omega, by omega, _, _, _, _, c1, c2, c3, c4, by omega, by omega, _, _, _, _, d1, d2, d3, d4, bsel_of (fun hq => ?_) (fun hq => ?_)⟩
    · refine ⟨?_, hst.toDrew⟩
      rw [decide_eq_false]
      rintro rfl
      simp at hq
    · have hq : la[k] = lb[k] := by
        simp only [Bool.not_eq_false', Bool.and_eq_true, decide_eq_true_eq, and_true] at hq
        obtain ⟨q1, q2, q3, q4⟩ := hq
        generalize la[k] = x at *
        generalize lb[k] = y at *
        obtain ⟨x1, x2, x3, x4⟩ := x
        obtain ⟨y1, y2, y3, y4⟩ := y
        simp only at q1 q2 q3 q4
        subst q1 q2 q3 q4
        rfl
      rw [wrap_i64 (by omega) (by omega)]
      refine ⟨⟨k + 1, by omega, hx, ?_, hst.toDrew⟩, by omega⟩
      rw [take_snoc (by omega), take_snoc (by omega), hp, hq]
  · have hx : k = na := by have := of_decide_eq_false hx; omega
    subst hx
    refine ⟨?_, hst⟩
    rw [List.take_of_length_le (by omega), List.take_of_length_le (by omega)] at hp
    rw [decide_eq_true hp]
/-! ### Lists that are right, with texts of at most M bytes -/
def GoodM (M : Nat) (l : List Vr) : Prop := Rising l ∧ ∀ v ∈ l, isName v.name = true ∧ v.name.length ≤ M ∧ v.value.length ≤ M
theorem GoodM.nil (M : Nat) : GoodM M [] := ⟨List.Pairwise.nil, by simp⟩
theorem GoodM.ins {M : Nat} {l : List Vr} (h : GoodM M l) {v : Vr} (h1 : isName v.name = true) (h2 : v.name.length ≤ M) (h3 : v.value.length ≤ M) : GoodM M (ins v l) :=
  ⟨ins_rising v h.1, fun u hu => (ins_mem hu).elim (fun e => by subst e; exact ⟨h1, h2, h3⟩) (h.2 u)⟩
theorem GoodM.value {M : Nat} {l : List Vr} (h : GoodM M l) (n : Txt) : (getD n l).value.length ≤ M := by
  unfold getD
  cases hg : get n l with
  | none => exact Nat.zero_le _
  | some v => exact (h.2 v (get_name hg).2).2.2
theorem GoodM.setR {M : Nat} {l : List Vr} (h : GoodM M l) {n x : Txt} (hn : n.length ≤ M) (hx : x.length ≤ M) : GoodM M (setR l n x).1 := by
  unfold Go.Proofs.YtgincpkggnndeaaGreatDoor.setR
  split
  · split
    · exact GoodM.nil M
    · rename_i h1 _
      exact h.ins h1 hn hx
  · exact GoodM.nil M
theorem GoodM.markR {M : Nat} {l : List Vr} (h : GoodM M l) {n : Txt} (hn : n.length ≤ M) (x y : Bool) : GoodM M (markR l n x y).1 := by
  unfold Go.Proofs.YtgincpkggnndeaaGreatDoor.markR
  split
  · rename_i h1
    exact h.ins h1 hn (h.value n)
  · exact GoodM.nil M
theorem ins_len (v : Vr) (l : List Vr) : (ins v l).length ≤ l.length + 1 := by
  rw [ins_length]
  split <;> omega
theorem markR_len (l : List Vr) (n : Txt) (x y : Bool) : (markR l n x y).1.length ≤ l.length + 1 := by
  unfold markR
  split
  · exact ins_len _ _
  · simp
def names6 : List Txt := [[97], [98], [99], [73, 70, 83], [120], [121]]
structure Ac where
  what : Nat
  nm : Nat
  raw : Txt
  value : Txt
  x : Bool
  y : Bool
structure ActAt (w : World) (a : Addr) (i M : Nat) (c : Ac) : Prop where
  c0 : w.cell? (a.add (i * 6)) = some (.int .u8 (c.what : Int))
  c1 : w.cell? ((a.add (i * 6)).add 1) = some (.int .u8 (c.nm : Int))
  c2 : w.cell? ((a.add (i * 6)).add 2) = some (.string (S c.raw))
  c3 : w.cell? ((a.add (i * 6)).add 3) = some (.string (S c.value))
  c4 : w.cell? ((a.add (i * 6)).add 4) = some (.bool c.x)
  c5 : w.cell? ((a.add (i * 6)).add 5) = some (.bool c.y)
  h0 : c.what < 256
  h1 : c.nm < 256
  h2 : c.raw.length ≤ M
  h3 : c.value.length ≤ M
theorem ActAt.still {w' : World} {a : Addr} {i M : Nat} {c : Ac} (h : ActAt w a i M c) (hs : Still w w') : ActAt w' a i M c :=
  ⟨hs.cell h.c0, hs.cell h.c1, hs.cell h.c2, hs.cell h.c3, hs.cell h.c4, hs.cell h.c5, h.h0, h.h1, h.h2, h.h3⟩
def ActsAt (w : World) (p : Option Addr) (L M : Nat) : Prop := ∀ i, i < L → ∃ a, p = some a ∧ ∃ c, ActAt w a i M c

/-- Variables that acts make. -/
theorem made_spec {acts : Option Addr} {L C M : Nat} (ha : ActsAt w acts L M) (hM : 3 ≤ M) :
    Calls Tryz.prog fn_law12_Made #[.slice acts L C] w (fun e w' => ∃ q D l, e = .returned (.slice q l.length D) ∧ VarAt w' q l.length D l ∧ GoodM M l ∧ l.length ≤ 12 * 2 ∧ Still w w') := by
  refine law12_Made_calls _ _ _ _ _ ?_
  refine ⟨fun q n D i w1 => ∃ (k : Nat) (l : List Vr), i = (k : Int) ∧ k ≤ 12 ∧ n = l.length ∧ VarAt w1 q n D l ∧ GoodM M l ∧ l.length ≤ k * 2 ∧ Still w w1, fun _ _ _ i _ => 12 - i.toNat,
    ⟨0, [], rfl, by decide, rfl, VarAt.nil _, GoodM.nil M, by decide, Still.refl _⟩, ?_⟩
  rintro q _ D _ _ w1 ⟨k, l, rfl, hk, rfl, hv, hg, hl, hst⟩
  have done : ∃ q' D' l', (Ending.returned (.slice q l.length D)) = .returned (.slice q' l'.length D') ∧ VarAt w1 q' l'.length D' l' ∧ GoodM M l' ∧ l'.length ≤ 12 * 2 ∧ Still w w1 := ⟨q, D, l, rfl, hv, hg, by omega, hst⟩
  refine bsel_of (fun hx => bsel_of (fun h12 => ?_) (fun _ => done)) (fun _ => done)
  have hx : k < L := by have := of_decide_eq_true hx; omega
  have h12 : k < 12 := by have := of_decide_eq_true h12; omega
  have e1 : IntKind.i64.wrap ((k : Int) + 1) = ((k + 1 : Nat) : Int) := by rw [wrap_i64 (by omega) (by omega)]; omega
  rw [e1]
  simp only [Int.toNat_natCast]
  obtain ⟨a, rfl, c, hc⟩ := ha k hx
  refine allocK fun w2 hr2 hs2 hz2 => ?_
  have hst2 := hst.trans hs2
  have hc2 := hc.still hst2
  have h6 : c.nm % 6 < 6 := Nat.mod_lt _ (by decide)
  have e6 : Int.tmod (IntKind.i64.wrap (c.nm : Int)) 6 = ((c.nm % 6 : Nat) : Int) := by
    have := hc.h1
    rw [wrap_i64 (by omega) (by omega)]
    exact tmod_nat _ 6
  have hnm : ∀ k, k < 6 → isName (names6.getD k []) = true ∧ (names6.getD k []).length ≤ 3 := by decide
  obtain ⟨hn1, hn2⟩ := hnm _ h6
  refine ⟨by omega, by omega, _, hc2.c1, by decide, ?_⟩
  rw [e6]
  refine ⟨by omega, by omega, names6.getD (c.nm % 6) [], ?_, ?_⟩
  · rw [Int.toNat_natCast, Nat.mul_one, add_row, Nat.zero_add]
    exact hr2.lget (strs_getD (l := names6) h6)
  generalize names6.getD (c.nm % 6) [] = s at *
  refine ⟨fun q n D w3 => ∃ l', n = l'.length ∧ VarAt w3 q n D l' ∧ GoodM M l' ∧ l'.length ≤ k * 2 + 1 ∧ Still w w3, ⟨by omega, by omega, _, hc2.c3, (rset_spec (hv.still hs2) (by omega) s c.value (by omega)).mono ?_⟩, ?_⟩
  · rintro _ w3 ⟨q', D', rfl, hv3, hs3⟩
    have hlen := setR_len l s c.value
    exact .inl ⟨_, _, _, _, rfl, bsel_of (fun _ => ⟨_, rfl, hv3, hg.setR (by omega) hc.h3, by omega, hst2.trans hs3⟩) (fun _ => ⟨_, rfl, (hv.still hs2).still hs3, hg, by omega, hst2.trans hs3⟩)⟩
  rintro q' _ D' _ w4 ⟨l', rfl, hv4, hg4, hl4, hst4⟩
  have hc4 := hc.still hst4
  refine ⟨by omega, by omega, _, hc4.c0, by decide, bsel_of (fun _ => ?_) (fun _ => ⟨⟨k + 1, l', rfl, h12, rfl, hv4, hg4, by omega, hst4⟩, by omega⟩)⟩
  refine ⟨fun w5 => w5 = w4.drew, rfl, by omega, by omega, _, fun w5 e => by subst e; exact hc4.c4, by omega, by omega, _, fun w5 e => by subst e; exact hc4.c5, (rmark_spec (hv4.still (Still.refl _).toDrew) (by omega) s _ _ (by omega)).mono ?_⟩
  rintro _ w5 ⟨q5, D5, rfl, hv5, hs5⟩
  have hlen := markR_len l' s c.x c.y
  exact .inl ⟨_, _, _, _, rfl, ⟨k + 1, _, rfl, h12, rfl, hv5, hg4.markR (by omega) _ _, by omega, hst4.toDrew.trans hs5⟩, by omega⟩
end Go.Proofs.YtgincpkggnndeaaGreatDoor
