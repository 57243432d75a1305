/- Variables: what the laws do, each of their functions. Conditions: as each theorem names them. -/
import Derived.Test.YtmodihbdjnklcaaVarLaw
namespace Go.Proofs.Ytmodihbdjnklcaa
open Go.RowKit Vc Go.Shelf
variable {w : World}

/-! ### Lists that are right, with texts of at most M bytes -/
def GoodM (M : Nat) (l : List Vr) : Prop := Rising l ∧ ∀ v ∈ l, isName v.name = true ∧ v.name.length ≤ M ∧ v.value.length ≤ M
theorem GoodM.nil (M : Nat) : GoodM M [] := ⟨List.Pairwise.nil, by simp⟩
theorem GoodM.good {M : Nat} {l : List Vr} (h : GoodM M l) (hM : M ≤ 9223372036854775807) : Good l := ⟨h.1, fun v hv => ⟨(h.2 v hv).1, by have := (h.2 v hv).2.1; omega⟩⟩
theorem GoodM.ins {M : Nat} {l : List Vr} (h : GoodM M l) {v : Vr} (h1 : isName v.name = true) (h2 : v.name.length ≤ M) (h3 : v.value.length ≤ M) : GoodM M (ins v l) :=
  ⟨ins_rising v h.1, fun u hu => (ins_mem hu).elim (fun e => by subst e; exact ⟨h1, h2, h3⟩) (h.2 u)⟩
theorem GoodM.del {M : Nat} {l : List Vr} (h : GoodM M l) (n : Txt) : GoodM M (del n l) := ⟨del_rising n h.1, fun u hu => h.2 u (del_mem hu)⟩
theorem GoodM.value {M : Nat} {l : List Vr} (h : GoodM M l) (n : Txt) : (getD n l).value.length ≤ M := by
  unfold getD
  cases hg : get n l with
  | none => exact Nat.zero_le _
  | some v => exact (h.2 v (get_name hg).2).2.2
theorem GoodM.setR {M : Nat} {l : List Vr} (h : GoodM M l) {n x : Txt} (hn : n.length ≤ M) (hx : x.length ≤ M) : GoodM M (setR l n x).1 := by
  unfold Go.Proofs.Ytmodihbdjnklcaa.setR
  split
  · split
    · exact GoodM.nil M
    · rename_i h1 _
      exact h.ins h1 hn hx
  · exact GoodM.nil M
theorem GoodM.markR {M : Nat} {l : List Vr} (h : GoodM M l) {n : Txt} (hn : n.length ≤ M) (x y : Bool) : GoodM M (markR l n x y).1 := by
  unfold Go.Proofs.Ytmodihbdjnklcaa.markR
  split
  · rename_i h1
    exact h.ins h1 hn (h.value n)
  · exact GoodM.nil M
theorem GoodM.unsetR {M : Nat} {l : List Vr} (h : GoodM M l) (n : Txt) : GoodM M (unsetR l n).1 := by
  unfold Go.Proofs.Ytmodihbdjnklcaa.unsetR
  split
  · exact GoodM.nil M
  · exact h.del n
theorem ins_len (v : Vr) (l : List Vr) : (ins v l).length ≤ l.length + 1 := by
  rw [ins_length]
  split <;> omega
theorem setR_len (l : List Vr) (n x : Txt) : (setR l n x).1.length ≤ l.length + 1 := by
  unfold setR
  split
  · split
    · simp
    · exact ins_len _ _
  · simp
theorem markR_len (l : List Vr) (n : Txt) (x y : Bool) : (markR l n x y).1.length ≤ l.length + 1 := by
  unfold markR
  split
  · exact ins_len _ _
  · simp
theorem unsetR_len (l : List Vr) (n : Txt) : (unsetR l n).1.length ≤ l.length + 1 := by
  unfold unsetR
  split
  · simp
  · have := del_length n l
    dsimp only
    omega

/-! ### Names -/
theorem tmod_nat (k m : Nat) : Int.tmod (k : Int) (m : Int) = ((k % m : Nat) : Int) := (Int.ofNat_tmod k m).symm
theorem strs_getD {l : List Txt} {i : Nat} (h : i < l.length) : (strs l)[i]? = some (.string (S (l.getD i []))) := by simp [strs, h, List.getD]
def names8 : List Txt := [[97], [98], [120, 49], [95], [66], [49], [], [97, 45, 98]]
def names6 : List Txt := [[97], [98], [99], [73, 70, 83], [120], [121]]
def nameA (nm : Nat) (raw : Txt) : Txt := if 128 ≤ nm then raw else names8.getD (nm % 8) []
theorem nameA_len {nm M : Nat} {raw : Txt} (h : raw.length ≤ M) (hM : 3 ≤ M) : (nameA nm raw).length ≤ M := by
  unfold nameA
  split
  · exact h
  · have h8 : nm % 8 < 8 := Nat.mod_lt _ (by decide)
    have : ∀ k, k < 8 → (names8.getD k []).length ≤ 3 := by decide
    have := this _ h8
    omega
theorem lname_spec (what : Int) (nm : Nat) (hn : nm < 256) (raw value : Txt) (x y : Bool) : Calls Try.prog fn_law12_name #[.agg #[.int .u8 what, .int .u8 (nm : Int), .string (S raw), .string (S value), .bool x, .bool y]] w
    (fun e w' => e = .returned (.string (S (nameA nm raw))) ∧ Still w w') := by
  refine law12_name_calls _ _ _ _ _ _ _ _ ?_
  refine allocK fun w1 hr1 hs1 hz1 => allocK fun w2 hr2 hs2 hz2 => ?_
  have hr1' := hr1.still hs2
  have hst := hs1.trans hs2
  refine ⟨_, hr1'.cellv rfl, bsel_of (fun h => ⟨_, hr1'.cellv rfl, ?_, hst⟩) (fun h => ?_)⟩
  · have h : 128 ≤ nm := by have := of_decide_eq_true h; omega
    rw [nameA, if_pos h]
  · have h : ¬ 128 ≤ nm := by have := of_decide_eq_false h; omega
    refine ⟨_, hr1'.cellv rfl, by decide, ?_⟩
    have h8 : nm % 8 < 8 := Nat.mod_lt _ (by decide)
    rw [wrap_i64 (by omega) (by omega), tmod_nat]
    refine ⟨by omega, by omega, names8.getD (nm % 8) [], ?_, ?_, hst⟩
    · rw [Int.toNat_natCast, Nat.mul_one, add_row, Nat.zero_add]
      exact hr2.lget (strs_getD (l := names8) h8)
    · rw [nameA, if_neg h]

/-! ### A right program is awake -/
theorem awake_spec : Calls Try.prog fn_law12_awake #[] w (fun e w' => e = .returned (.bool true) ∧ Still w w') := by
  refine law12_awake_calls _ _ ?_
  have e1 : setR [] [97] [49] = ([⟨[97], [49], false, false⟩], 0) := by decide
  have e2 : markR [⟨[97], [49], false, false⟩] [97] true true = ([⟨[97], [49], true, true⟩], 0) := by decide
  have e3 : setR [⟨[97], [49], true, true⟩] [97] [50] = ([], 150) := by decide
  have e4 : environ [⟨[97], [49], true, true⟩] = [[97, 61, 49]] := by decide
  have s1 := set_spec (VarAt.nil w) List.Pairwise.nil (by decide) [97] [49] (by decide)
  rw [e1] at s1
  refine s1.mono ?_
  rintro _ w1 ⟨q1, D1, rfl, hv1, h1⟩
  have s2 := mark_spec hv1 (List.pairwise_singleton _ _) (by decide) [97] true true (by decide)
  rw [e2] at s2
  refine .inl ⟨_, _, _, _, rfl, s2.mono ?_⟩
  rintro _ w2 ⟨q2, D2, rfl, hv2, h2⟩
  have s3 := set_spec hv2 (List.pairwise_singleton _ _) (by decide) [97] [50] (by decide)
  rw [e3] at s3
  refine .inl ⟨_, _, _, _, rfl, s3.mono ?_⟩
  rintro _ w3 ⟨q3, D3, rfl, hv3, h3⟩
  have s4 := environ_spec (hv2.still h3) (by decide) (by decide)
  rw [e4] at s4
  refine .inl ⟨_, _, _, _, rfl, s4.mono ?_⟩
  rintro _ w4 ⟨q4, D4, rfl, ho4, h4⟩
  refine .inl ⟨_, _, _, rfl, allocK fun w5 hr5 hs5 hz5 => (same_spec (StrsAt.of (ho4.still hs5)) (StrsAt.row (l := [[97, 61, 49]]) hr5) (by decide)).mono ?_⟩
  rintro _ w6 ⟨rfl, h6⟩
  exact .inl ⟨_, rfl, rfl, (((h1.trans h2).trans h3).trans h4).trans (hs5.trans h6)⟩

/-! ### Acts -/
structure Ac where
  what : Nat
  nm : Nat
  raw : Txt
  value : Txt
  x : Bool
  y : Bool
abbrev Ac.name (c : Ac) : Txt := nameA c.nm c.raw
abbrev Ac.val (c : Ac) : Value := .agg #[.int .u8 (c.what : Int), .int .u8 (c.nm : Int), .string (S c.raw), .string (S c.value), .bool c.x, .bool c.y]
structure ActAt (w : World) (a : Addr) (i M : Nat) (c : Ac) : Prop where
  c0 : w.cell? (a.add (i * 6)) = some (.int .u8 (c.what : Int))
  c1 : w.cell? ((a.add (i * 6)).add 1) = some (.int .u8 (c.nm : Int))
  c2 : w.cell? ((a.add (i * 6)).add 2) = some (.string (S c.raw))
  c3 : w.cell? ((a.add (i * 6)).add 3) = some (.string (S c.value))
  c4 : w.cell? ((a.add (i * 6)).add 4) = some (.bool c.x)
  c5 : w.cell? ((a.add (i * 6)).add 5) = some (.bool c.y)
  h0 : c.what < 256
  h1 : c.nm < 256
  h2 : c.raw.length ≤ M
  h3 : c.value.length ≤ M
theorem ActAt.still {w' : World} {a : Addr} {i M : Nat} {c : Ac} (h : ActAt w a i M c) (hs : Still w w') : ActAt w' a i M c :=
  ⟨hs.cell h.c0, hs.cell h.c1, hs.cell h.c2, hs.cell h.c3, hs.cell h.c4, hs.cell h.c5, h.h0, h.h1, h.h2, h.h3⟩
def ActsAt (w : World) (p : Option Addr) (L M : Nat) : Prop := ∀ i, i < L → ∃ a, p = some a ∧ ∃ c, ActAt w a i M c

/-- What an act makes of variables. -/
def actR (l : List Vr) (c : Ac) : List Vr × Int := if c.what % 5 = 3 then markR l c.name c.x c.y else if c.what % 5 = 4 then unsetR l c.name else setR l c.name c.value
def newL (l : List Vr) (c : Ac) : List Vr := if (actR l c).2 = 0 then (actR l c).1 else l
theorem newL_good {M : Nat} {l : List Vr} {c : Ac} (h : GoodM M l) (h2 : c.name.length ≤ M) (h3 : c.value.length ≤ M) : GoodM M (newL l c) ∧ (newL l c).length ≤ l.length + 1 := by
  have ha : GoodM M (actR l c).1 ∧ (actR l c).1.length ≤ l.length + 1 := by
    unfold actR
    split
    · exact ⟨h.markR h2 _ _, markR_len _ _ _ _⟩
    · split
      · exact ⟨h.unsetR _, unsetR_len _ _⟩
      · exact ⟨h.setR h2 h3, setR_len _ _ _⟩
  unfold newL
  split
  · exact ha
  · exact ⟨h, by omega⟩
section
variable {p : Option Addr} {n C : Nat} {l : List Vr}
theorem does_spec (h : VarAt w p n C l) (hs : Rising l) (hn : n < 900000) (c : Ac) (_h0 : c.what < 256) (h1 : c.nm < 256) (h2 : c.name.length ≤ 9223372036854775807) :
    Calls Try.prog fn_law12_does #[.slice p n C, c.val] w (fun e w' => ∃ q D, e = .returned (.tuple #[.slice q (newL l c).length D, .bool true]) ∧ VarAt w' q (newL l c).length D (newL l c) ∧ Still w w') := by
  refine law12_does_calls _ _ _ _ _ _ _ _ _ _ _ ?_
  refine allocK fun w1 hr1 hs1 hz1 => ?_
  refine ⟨_, _, _, _, _, _, hr1.cellv rfl, hr1.cellv rfl, hr1.cellv rfl, hr1.cellv rfl, hr1.cellv rfl, hr1.cellv rfl, (lname_spec _ c.nm h1 _ _ _ _).mono ?_⟩
  rintro _ w2 ⟨rfl, hs2⟩
  have hr2 := hr1.still hs2
  have hst2 := hs1.trans hs2
  have hl := h.1
  refine .inl ⟨_, rfl, fun q L D q' L' D' e f w9 => e = (actR l c).2 ∧ f = (actR l c).2 ∧ L = (actR l c).1.length ∧ L' = (actR l c).1.length ∧ VarAt w9 q L D (actR l c).1 ∧ VarAt w9 q' L' D' (actR l c).1 ∧ Still w w9, ⟨_, hr2.cellv rfl, by decide, ?_⟩, ?_⟩
  · have e3 : Int.tmod (c.what : Int) 5 = ((c.what % 5 : Nat) : Int) := tmod_nat _ 5
    rw [e3]
    refine bsel_of (fun hw => ?_) (fun hw => bsel_of (fun hw4 => ?_) (fun hw4 => ?_))
    · have hw : c.what % 5 = 3 := by have := of_decide_eq_true hw; omega
      have e : actR l c = markR l c.name c.x c.y := by unfold actR; rw [if_pos hw]
      rw [e]
      refine ⟨_, hr2.cellv rfl, _, hr2.cellv rfl, (mark_spec (h.still hst2) hs hn _ _ _ h2).mono ?_⟩
      rintro _ w3 ⟨q, D, rfl, hv3, hs3⟩
      have hr3 := hr2.still hs3
      refine .inl ⟨_, _, _, _, rfl, _, hr3.cellv rfl, _, hr3.cellv rfl, (rmark_spec (h.still (hst2.trans hs3)) hn _ _ _ h2).mono ?_⟩
      rintro _ w4 ⟨q', D', rfl, hv4, hs4⟩
      exact .inl ⟨_, _, _, _, rfl, rfl, rfl, rfl, rfl, hv3.still hs4, hv4, (hst2.trans hs3).trans hs4⟩
    · have hw : ¬ c.what % 5 = 3 := by have := of_decide_eq_false hw; omega
      have hw4 : c.what % 5 = 4 := by have := of_decide_eq_true hw4; omega
      have e : actR l c = unsetR l c.name := by unfold actR; rw [if_neg hw, if_pos hw4]
      rw [e]
      refine (unset_spec (h.still hst2) hs hn _).mono ?_
      rintro _ w3 ⟨q, D, rfl, hv3, hs3⟩
      refine .inl ⟨_, _, _, _, rfl, (runset_spec (h.still (hst2.trans hs3)) hn _).mono ?_⟩
      rintro _ w4 ⟨q', D', rfl, hv4, hs4⟩
      exact .inl ⟨_, _, _, _, rfl, rfl, rfl, rfl, rfl, hv3.still hs4, hv4, (hst2.trans hs3).trans hs4⟩
    · have hw : ¬ c.what % 5 = 3 := by have := of_decide_eq_false hw; omega
      have hw4 : ¬ c.what % 5 = 4 := by have := of_decide_eq_false hw4; omega
      have e : actR l c = setR l c.name c.value := by unfold actR; rw [if_neg hw, if_neg hw4]
      rw [e]
      refine ⟨_, hr2.cellv rfl, (set_spec (h.still hst2) hs hn _ _ h2).mono ?_⟩
      rintro _ w3 ⟨q, D, rfl, hv3, hs3⟩
      have hr3 := hr2.still hs3
      refine .inl ⟨_, _, _, _, rfl, _, hr3.cellv rfl, (rset_spec (h.still (hst2.trans hs3)) hn _ _ h2).mono ?_⟩
      rintro _ w4 ⟨q', D', rfl, hv4, hs4⟩
      exact .inl ⟨_, _, _, _, rfl, rfl, rfl, rfl, rfl, hv3.still hs4, hv4, (hst2.trans hs3).trans hs4⟩
  · rintro q _ D q' _ D' _ _ _ w9 ⟨rfl, rfl, rfl, rfl, hq, hq', hst⟩
    refine bsel_of (fun hne => by simp at hne) (fun _ => ?_)
    have hlen : (actR l c).1.length ≤ l.length + 1 := by
      unfold actR
      split
      · exact markR_len _ _ _ _
      · split
        · exact unsetR_len _ _
        · exact setR_len _ _ _
    refine (rsame_spec hq hq' (by omega)).mono ?_
    rintro _ w10 ⟨rfl, hs10⟩
    refine .inl ⟨_, rfl, bsel_of (fun hne => by simp at hne) (fun _ => bsel_of (fun hz => ?_) (fun hz => ?_))⟩
    · have hz : ¬ (actR l c).2 = 0 := by simpa using hz
      have e : newL l c = l := by unfold newL; rw [if_neg hz]
      rw [e]
      exact ⟨_, _, by rw [hl], by rw [hl]; exact h.still (hst.trans hs10), hst.trans hs10⟩
    · have hz : (actR l c).2 = 0 := by simpa using hz
      have e : newL l c = (actR l c).1 := by unfold newL; rw [if_pos hz]
      rw [e]
      exact ⟨_, _, rfl, hq.still hs10, hst.trans hs10⟩
end
/-- Variables that acts make. -/
theorem made_spec {acts : Option Addr} {L C M : Nat} (ha : ActsAt w acts L M) (hM : 3 ≤ M) :
    Calls Try.prog fn_law12_Made #[.slice acts L C] w (fun e w' => ∃ q D l, e = .returned (.slice q l.length D) ∧ VarAt w' q l.length D l ∧ GoodM M l ∧ l.length ≤ 12 * 2 ∧ Still w w') := by
  refine law12_Made_calls _ _ _ _ _ ?_
  refine ⟨fun q n D i w1 => ∃ (k : Nat) (l : List Vr), i = (k : Int) ∧ k ≤ 12 ∧ n = l.length ∧ VarAt w1 q n D l ∧ GoodM M l ∧ l.length ≤ k * 2 ∧ Still w w1, fun _ _ _ i _ => 12 - i.toNat,
    ⟨0, [], rfl, by decide, rfl, VarAt.nil _, GoodM.nil M, by decide, Still.refl _⟩, ?_⟩
  rintro q _ D _ _ w1 ⟨k, l, rfl, hk, rfl, hv, hg, hl, hst⟩
  have done : ∃ q' D' l', (Ending.returned (.slice q l.length D)) = .returned (.slice q' l'.length D') ∧ VarAt w1 q' l'.length D' l' ∧ GoodM M l' ∧ l'.length ≤ 12 * 2 ∧ Still w w1 := ⟨q, D, l, rfl, hv, hg, by omega, hst⟩
  refine bsel_of (fun hx => bsel_of (fun h12 => ?_) (fun _ => done)) (fun _ => done)
  have hx : k < L := by have := of_decide_eq_true hx; omega
  have h12 : k < 12 := by have := of_decide_eq_true h12; omega
  have e1 : IntKind.i64.wrap ((k : Int) + 1) = ((k + 1 : Nat) : Int) := by rw [wrap_i64 (by omega) (by omega)]; omega
  rw [e1]
  simp only [Int.toNat_natCast]
  obtain ⟨a, rfl, c, hc⟩ := ha k hx
  refine allocK fun w2 hr2 hs2 hz2 => ?_
  have hst2 := hst.trans hs2
  have hc2 := hc.still hst2
  have h6 : c.nm % 6 < 6 := Nat.mod_lt _ (by decide)
  have e6 : Int.tmod (IntKind.i64.wrap (c.nm : Int)) 6 = ((c.nm % 6 : Nat) : Int) := by
    have := hc.h1
    rw [wrap_i64 (by omega) (by omega)]
    exact tmod_nat _ 6
  have hnm : ∀ k, k < 6 → isName (names6.getD k []) = true ∧ (names6.getD k []).length ≤ 3 := by decide
  obtain ⟨hn1, hn2⟩ := hnm _ h6
  refine ⟨by omega, by omega, _, hc2.c1, by decide, ?_⟩
  rw [e6]
  refine ⟨by omega, by omega, names6.getD (c.nm % 6) [], ?_, ?_⟩
  · rw [Int.toNat_natCast, Nat.mul_one, add_row, Nat.zero_add]
    exact hr2.lget (strs_getD (l := names6) h6)
  generalize names6.getD (c.nm % 6) [] = s at *
  refine ⟨fun q n D w3 => ∃ l', n = l'.length ∧ VarAt w3 q n D l' ∧ GoodM M l' ∧ l'.length ≤ k * 2 + 1 ∧ Still w w3, ⟨by omega, by omega, _, hc2.c3, (rset_spec (hv.still hs2) (by omega) s c.value (by omega)).mono ?_⟩, ?_⟩
  · rintro _ w3 ⟨q', D', rfl, hv3, hs3⟩
    have hlen := setR_len l s c.value
    exact .inl ⟨_, _, _, _, rfl, bsel_of (fun _ => ⟨_, rfl, hv3, hg.setR (by omega) hc.h3, by omega, hst2.trans hs3⟩) (fun _ => ⟨_, rfl, (hv.still hs2).still hs3, hg, by omega, hst2.trans hs3⟩)⟩
  rintro q' _ D' _ w4 ⟨l', rfl, hv4, hg4, hl4, hst4⟩
  have hc4 := hc.still hst4
  refine ⟨by omega, by omega, _, hc4.c0, by decide, bsel_of (fun _ => ?_) (fun _ => ⟨⟨k + 1, l', rfl, h12, rfl, hv4, hg4, by omega, hst4⟩, by omega⟩)⟩
  refine ⟨fun w5 => w5 = w4.drew, rfl, by omega, by omega, _, fun w5 e => by subst e; exact hc4.c4, by omega, by omega, _, fun w5 e => by subst e; exact hc4.c5, (rmark_spec (hv4.still (Still.refl _).toDrew) (by omega) s _ _ (by omega)).mono ?_⟩
  rintro _ w5 ⟨q5, D5, rfl, hv5, hs5⟩
  have hlen := markR_len l' s c.x c.y
  exact .inl ⟨_, _, _, _, rfl, ⟨k + 1, _, rfl, h12, rfl, hv5, hg4.markR (by omega) _ _, by omega, hst4.toDrew.trans hs5⟩, by omega⟩
end Go.Proofs.Ytmodihbdjnklcaa
