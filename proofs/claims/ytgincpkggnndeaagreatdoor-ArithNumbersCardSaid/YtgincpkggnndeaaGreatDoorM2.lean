/- Texts of one proof, one behind the other. Conditions: as each theorem names them. -/
import Derived.Test.YtgincpkggnndeaaGreatDoorArP
namespace Go.Proofs.YtgincpkggnndeaaGreatDoor
open Go.RowKit Vc

def digR (c : UInt8) : Nat := if 48 ≤ c.toNat ∧ c.toNat ≤ 57 then c.toNat - 48 else if 97 ≤ c.toNat ∧ c.toNat ≤ 102 then c.toNat - 87 else if 65 ≤ c.toNat ∧ c.toNat ≤ 70 then c.toNat - 55 else 99
def numS (b : Nat) : Txt → Nat → Option Nat
  | [], n => some n
  | c :: s, n => if b ≤ digR c ∨ (9223372036854775807 - digR c) / b < n then none else numS b s (n * b + digR c)
theorem digV_hex {c : UInt8} (h : isHexC c = true) : digV c = some (digR c) ∧ digR c < 16 := by
  have key : ∀ n : Nat, n < 256 → (decide (48 ≤ n) && decide (n ≤ 57) || decide (97 ≤ n) && decide (n ≤ 102) || decide (65 ≤ n) && decide (n ≤ 70)) = true →
      (if 48 ≤ n ∧ n ≤ 57 then some (n - 48) else if 97 ≤ (n ||| 32) ∧ (n ||| 32) ≤ 122 then some ((n ||| 32) - 97 + 10) else none) = some (if 48 ≤ n ∧ n ≤ 57 then n - 48 else if 97 ≤ n ∧ n ≤ 102 then n - 87 else if 65 ≤ n ∧ n ≤ 70 then n - 55 else 99) ∧
      (if 48 ≤ n ∧ n ≤ 57 then n - 48 else if 97 ≤ n ∧ n ≤ 102 then n - 87 else if 65 ≤ n ∧ n ≤ 70 then n - 55 else 99) < 16 := by decide +kernel
  have := key c.toNat c.toNat_lt h
  unfold digV digR lowN
  rw [UInt8.toNat_or]
  exact this
theorem digR_no {c : UInt8} (h : isHexC c = false) : digR c = 99 := by
  unfold isHexC at h
  simp only [Bool.or_eq_false_iff, Bool.and_eq_false_iff, decide_eq_false_iff_not] at h
  unfold digR
  rw [if_neg (by omega), if_neg (by omega), if_neg (by omega)]
theorem scanU_ge {b : Nat} (hb : 0 < b) : ∀ {s : Txt} {n m : Nat}, scanU b s n = .ok m → n ≤ m
  | [], n, m, h => by injection h with h; omega
  | c :: s, n, m, h => by
    simp only [scanU] at h
    split at h
    · cases h
    · split at h
      · cases h
      · split at h
        · cases h
        · have := scanU_ge hb h
          have h2 : n * 1 ≤ n * b := Nat.mul_le_mul_left _ hb
          omega
theorem numS_nohex {b : Nat} (hb : b ≤ 16) : ∀ {s : Txt} {n : Nat}, s.all isHexC = false → numS b s n = none
  | [], _, h => by cases h
  | c :: s, n, h => by
    simp only [List.all_cons, Bool.and_eq_false_iff] at h
    simp only [numS]
    split
    · rfl
    · rename_i hc
      rcases h with h | h
      · rw [digR_no h] at hc
        exact absurd (.inl (by omega)) hc
      · exact numS_nohex hb h
theorem numS_scan {b : Nat} (hb0 : 0 < b) : ∀ {s : Txt} {n : Nat}, s.all isHexC = true → n ≤ 9223372036854775807 → (match numS b s n with
    | some m => scanU b s n = .ok m ∧ m ≤ 9223372036854775807
    | none => (∃ k, scanU b s n = .bad k) ∨ ∃ m, scanU b s n = .ok m ∧ 9223372036854775808 ≤ m)
  | [], n, _, hn => ⟨rfl, hn⟩
  | c :: s, n, h, hn => by
    simp only [List.all_cons, Bool.and_eq_true] at h
    obtain ⟨hd, h16⟩ := digV_hex h.1
    simp only [numS, scanU, hd]
    generalize digR c = d at *
    by_cases h1 : b ≤ d
    · rw [if_pos (.inl h1)]
      exact .inl ⟨2, by rw [if_pos h1]⟩
    · have e : ((9223372036854775807 - d) / b < n) ↔ 9223372036854775807 - d < n * b := Nat.div_lt_iff_lt_mul hb0
      by_cases h2 : (9223372036854775807 - d) / b < n
      · rw [if_pos (.inr h2), if_neg h1]
        have h3 := e.1 h2
        by_cases h4 : 18446744073709551615 < n * b + d
        · exact .inl ⟨1, by rw [if_pos h4]⟩
        · rw [if_neg h4]
          cases hs : scanU b s (n * b + d) with
          | bad k => exact .inl ⟨k, rfl⟩
          | ok m => exact .inr ⟨m, rfl, by have := scanU_ge hb0 hs; omega⟩
      · have h3 : ¬ 9223372036854775807 - d < n * b := fun x => h2 (e.2 x)
        rw [if_neg (by omega), if_neg h1, if_neg (by omega)]
        exact numS_scan hb0 h.2 (by omega)
def numR13 (s : Txt) : Option Nat := if (baseOf s).2 = [] then none else numS (baseOf s).1 (baseOf s).2 0
theorem base_in (s : Txt) : (baseOf s).1 = 8 ∨ (baseOf s).1 = 10 ∨ (baseOf s).1 = 16 := by
  unfold baseOf
  split
  · split
    · exact .inr (.inr rfl)
    · split
      · exact .inl rfl
      · exact .inr (.inl rfl)
  · split
    · exact .inl rfl
    · exact .inr (.inl rfl)
  · exact .inr (.inl rfl)
theorem numV_eq (s : Txt) : numV s = (numR13 s).map fun n => (n : Int) := by
  have hb := base_in s
  unfold numV numR13
  generalize (baseOf s).1 = b at *
  generalize (baseOf s).2 = ds at *
  cases ds with
  | nil => simp [parseI]
  | cons c t =>
    rw [if_neg (show ¬ (c :: t = []) by simp)]
    cases ha : (c :: t).all isHexC with
    | false => rw [if_neg (by decide), numS_nohex (by omega) ha]; rfl
    | true =>
      rw [if_pos rfl]
      have hc : isHexC c = true := by simp only [List.all_cons, Bool.and_eq_true] at ha; exact ha.1
      have h43 : ¬ c = 43 := fun e => by rw [e] at hc; revert hc; decide
      have h45 : ¬ c = 45 := fun e => by rw [e] at hc; revert hc; decide
      have hp : parseI b (c :: t) = signed false (scanU b (c :: t) 0) := by
        simp only [parseI]
        rw [if_neg h43, if_neg h45]
        unfold parseU
        rw [if_neg (by simp)]
      rw [hp]
      have hs := numS_scan (b := b) (by omega) ha (Nat.zero_le _)
      cases hn : numS b (c :: t) 0 with
      | some m =>
        rw [hn] at hs
        rw [hs.1]
        unfold signed
        dsimp only
        rw [if_neg (by decide), if_neg (by omega)]
        rfl
      | none =>
        rw [hn] at hs
        rcases hs with ⟨k, hs⟩ | ⟨m, hs, hm⟩
        · rw [hs]
          rfl
        · rw [hs]
          unfold signed
          dsimp only
          rw [if_neg (by decide), if_pos hm]
          rfl
theorem numV_range {s : Txt} {n : Int} (h : numV s = some n) : 0 ≤ n ∧ n < 9223372036854775808 := by
  rw [numV_eq] at h
  unfold numR13 at h
  split at h
  · cases h
  · have hb := base_in s
    cases hn : numS (baseOf s).1 (baseOf s).2 0 with
    | none => rw [hn] at h; cases h
    | some m =>
      rw [hn] at h
      injection h with h
      have h : (m : Int) = n := h
      cases ha : (baseOf s).2.all isHexC with
      | false => rw [numS_nohex (by omega) ha] at hn; cases hn
      | true =>
        have hs := numS_scan (b := (baseOf s).1) (by omega) ha (Nat.zero_le _)
        rw [hn] at hs
        have := hs.2
        omega
/-- A variable's value's worth. -/
def worthV (s : Txt) : Option Int := match s with
  | [] => some 0
  | c :: r => if c = 45 then (numV r).map fun n => -n else numV (c :: r)
end Go.Proofs.YtgincpkggnndeaaGreatDoor
namespace Go.Proofs.YtgincpkggnndeaaGreatDoor
open Go.RowKit Vc

/-- How tightly an operator of two binds; 0: it is none. -/
def lvl (o : Txt) : Nat :=
  if o = [124, 124] then 1 else if o = [38, 38] then 2 else if o = [124] then 3 else if o = [94] then 4 else if o = [38] then 5 else
  if o = [61, 61] then 6 else if o = [33, 61] then 6 else if o = [60] then 7 else if o = [60, 61] then 7 else if o = [62] then 7 else if o = [62, 61] then 7 else
  if o = [60, 60] then 8 else if o = [62, 62] then 8 else if o = [43] then 9 else if o = [45] then 9 else if o = [42] then 10 else if o = [47] then 10 else if o = [37] then 10 else 0
theorem lvl_of {o : Txt} {l : Nat} (h : o ∈ lv l) : lvl o = l + 1 := by
  have hl := (lv_mem h).2
  have : ∀ l, l < 10 → ∀ o ∈ lv l, lvl o = l + 1 := by decide
  exact this l hl o h
theorem opAt_all (s : Txt) : opAt s = [] ∨ opAt s ∈ allOps := by
  by_cases h : opAt s = []
  · exact .inl h
  · exact .inr (opAt_mem h).1
theorem of_lvl {s : Txt} (h : lvl (opAt s) ≠ 0) : lvl (opAt s) ≤ 10 ∧ opAt s ∈ lv (lvl (opAt s) - 1) := by
  have : ∀ o ∈ allOps, lvl o ≠ 0 → lvl o ≤ 10 ∧ o ∈ lv (lvl o - 1) := by decide
  rcases opAt_all s with e | e
  · rw [e] at h
    exact absurd rfl h
  · exact this _ e h
theorem lvl_zero {s : Txt} (h : ∀ j, opAt s ∉ lv j) : lvl (opAt s) = 0 := by
  by_cases h0 : lvl (opAt s) = 0
  · exact h0
  · exact absurd (of_lvl h0).2 (h _)
inductive Cm where
  | expr (d : Nat)
  | cond (d : Nat)
  | bin (m d : Nat)
  | bloop (m d : Nat) (a : Tm)
  | una (d : Nat)
inductive Cl : Cm → Txt → Pr (Tm × Txt) → Prop
  | exLong {d : Nat} {s : Txt} (h : 30 < d) : Cl (.expr d) s (.bad 2)
  | exSet {d : Nat} {s n o r r' : Txt} {t : Tm} (h : ¬ 30 < d) (ha : asg s = some (n, o, r)) (h1 : Cl (.expr (d + 1)) r (.ok (t, r'))) : Cl (.expr d) s (.ok (.set n o.dropLast t, r'))
  | exSetBad {d : Nat} {s n o r : Txt} {k : Nat} (h : ¬ 30 < d) (ha : asg s = some (n, o, r)) (h1 : Cl (.expr (d + 1)) r (.bad k)) : Cl (.expr d) s (.bad k)
  | exCond {d : Nat} {s : Txt} {q : Pr (Tm × Txt)} (h : ¬ 30 < d) (ha : asg s = none) (h1 : Cl (.cond d) (trim s) q) : Cl (.expr d) s q
  | coBad {d : Nat} {s : Txt} {k : Nat} (h1 : Cl (.bin 1 d) s (.bad k)) : Cl (.cond d) s (.bad k)
  | coNo {d : Nat} {s r : Txt} {c : Tm} (h1 : Cl (.bin 1 d) s (.ok (c, r))) (ho : opAt r ≠ [63]) : Cl (.cond d) s (.ok (c, trim r))
  | coABad {d : Nat} {s r : Txt} {c : Tm} {k : Nat} (h1 : Cl (.bin 1 d) s (.ok (c, r))) (ho : opAt r = [63]) (h2 : Cl (.expr (d + 1)) (aft r) (.bad k)) : Cl (.cond d) s (.bad k)
  | coColon {d : Nat} {s r r2 : Txt} {c a : Tm} (h1 : Cl (.bin 1 d) s (.ok (c, r))) (ho : opAt r = [63]) (h2 : Cl (.expr (d + 1)) (aft r) (.ok (a, r2))) (ho2 : opAt r2 ≠ [58]) : Cl (.cond d) s (.bad 130)
  | coBBad {d : Nat} {s r r2 : Txt} {c a : Tm} {k : Nat} (h1 : Cl (.bin 1 d) s (.ok (c, r))) (ho : opAt r = [63]) (h2 : Cl (.expr (d + 1)) (aft r) (.ok (a, r2))) (ho2 : opAt r2 = [58]) (h3 : Cl (.cond (d + 1)) (aft r2) (.bad k)) : Cl (.cond d) s (.bad k)
  | coOk {d : Nat} {s r r2 r3 : Txt} {c a b : Tm} (h1 : Cl (.bin 1 d) s (.ok (c, r))) (ho : opAt r = [63]) (h2 : Cl (.expr (d + 1)) (aft r) (.ok (a, r2))) (ho2 : opAt r2 = [58]) (h3 : Cl (.cond (d + 1)) (aft r2) (.ok (b, r3))) : Cl (.cond d) s (.ok (.cho c a b, r3))
  | binBad {m d : Nat} {s : Txt} {k : Nat} (h1 : Cl (.una d) s (.bad k)) : Cl (.bin m d) s (.bad k)
  | bin {m d : Nat} {s r : Txt} {a : Tm} {q : Pr (Tm × Txt)} (h1 : Cl (.una d) s (.ok (a, r))) (h2 : Cl (.bloop m d a) r q) : Cl (.bin m d) s q
  | blEnd {m d : Nat} {s : Txt} {a : Tm} (h : lvl (opAt s) < m ∨ lvl (opAt s) = 0) : Cl (.bloop m d a) s (.ok (a, trim s))
  | blBad {m d : Nat} {s : Txt} {a : Tm} {k : Nat} (h : ¬ (lvl (opAt s) < m ∨ lvl (opAt s) = 0)) (h1 : Cl (.bin (lvl (opAt s) + 1) d) (aft s) (.bad k)) : Cl (.bloop m d a) s (.bad k)
  | blStep {m d : Nat} {s r : Txt} {a b : Tm} {q : Pr (Tm × Txt)} (h : ¬ (lvl (opAt s) < m ∨ lvl (opAt s) = 0)) (h1 : Cl (.bin (lvl (opAt s) + 1) d) (aft s) (.ok (b, r))) (h2 : Cl (.bloop m d (.bin (opAt s) a b)) r q) : Cl (.bloop m d a) s q
  | unLong {d : Nat} {s : Txt} (h : 30 < d) : Cl (.una d) s (.bad 2)
  | unOp {d : Nat} {s r : Txt} {t : Tm} (h : ¬ 30 < d) (ho : opAt s ∈ sgnOps) (h1 : Cl (.una (d + 1)) (aft s) (.ok (t, r))) : Cl (.una d) s (.ok (.sgn (opAt s) t, r))
  | unOpBad {d : Nat} {s : Txt} {k : Nat} (h : ¬ 30 < d) (ho : opAt s ∈ sgnOps) (h1 : Cl (.una (d + 1)) (aft s) (.bad k)) : Cl (.una d) s (.bad k)
  | unParBad {d : Nat} {s : Txt} {k : Nat} (h : ¬ 30 < d) (ho : opAt s = [40]) (h1 : Cl (.expr (d + 1)) (aft s) (.bad k)) : Cl (.una d) s (.bad k)
  | unParNo {d : Nat} {s r : Txt} {t : Tm} (h : ¬ 30 < d) (ho : opAt s = [40]) (h1 : Cl (.expr (d + 1)) (aft s) (.ok (t, r))) (ho2 : opAt r ≠ [41]) : Cl (.una d) s (.bad 130)
  | unPar {d : Nat} {s r : Txt} {t : Tm} (h : ¬ 30 < d) (ho : opAt s = [40]) (h1 : Cl (.expr (d + 1)) (aft s) (.ok (t, r))) (ho2 : opAt r = [41]) : Cl (.una d) s (.ok (t, aft r))
  | unPrim {d : Nat} {s : Txt} (h : ¬ 30 < d) (ho : opAt s ∉ sgnOps) (ho2 : opAt s ≠ [40]) : Cl (.una d) s (prim (trim s))
theorem bloop_trim {m d : Nat} {a : Tm} {s : Txt} {q : Pr (Tm × Txt)} (h : Cl (.bloop m d a) (trim s) q) : Cl (.bloop m d a) s q := by
  generalize hs : trim s = s' at h
  cases h with
  | blEnd h =>
    rw [← hs, opAt_trim] at h
    rw [← hs, trim_trim]
    exact .blEnd h
  | blBad h h1 =>
    rw [← hs, opAt_trim] at h h1
    rw [aft_trim] at h1
    exact .blBad h h1
  | blStep h h1 h2 =>
    rw [← hs, opAt_trim] at h h1 h2
    rw [aft_trim] at h1
    exact .blStep h h1 h2
def Good : Md → Txt → Pr (Tm × Txt) → Prop
  | .expr d, s, q => Cl (.expr d) s q
  | .cho d, s, q => Cl (.cond d) s q
  | .sig d, s, q => Cl (.una d) s q
  | .lev l d, s, q => l ≤ 10 → ∀ m, m ≤ l + 1 → match q with
    | .bad k => Cl (.bin m d) s (.bad k)
    | .ok (a, r) => (∀ j, l ≤ j → opAt r ∉ lv j) ∧ ∀ q', Cl (.bloop m d a) r q' → Cl (.bin m d) s q'
  | .loop l d a, s, q => l < 10 → (∀ j, l < j → opAt s ∉ lv j) → ∀ m, m ≤ l + 1 → match q with
    | .bad k => Cl (.bloop m d a) s (.bad k)
    | .ok (a', r) => (∀ j, l ≤ j → opAt r ∉ lv j) ∧ ∀ q', Cl (.bloop m d a') r q' → Cl (.bloop m d a) s q'
theorem ps_good : ∀ (f : Nat) (m : Md) (s : Txt) (q : Pr (Tm × Txt)), ps f m s = some q → Good m s q
  | 0, _, _, _, h => by simp [ps] at h
  | f + 1, .expr d, s, q, h => by
    simp only [ps] at h
    show Cl (.expr d) s q
    split at h
    · rename_i hd
      injection h with h
      rw [← h]
      exact .exLong hd
    · rename_i hd
      split at h
      · rename_i n o r ha
        rcases andR_some h with ⟨k, h1, rfl⟩ | ⟨t, r', h1, h2⟩
        · exact .exSetBad hd ha (ps_good f _ _ _ h1)
        · injection h2 with h2
          rw [← h2]
          exact .exSet hd ha (ps_good f _ _ _ h1)
      · rename_i ha
        exact .exCond hd ha (ps_good f _ _ _ h)
  | f + 1, .cho d, s, q, h => by
    simp only [ps] at h
    show Cl (.cond d) s q
    rcases andR_some h with ⟨k, h1, rfl⟩ | ⟨c, r, h1, h2⟩
    · exact .coBad (ps_good f _ _ _ h1 (by decide) 1 (by decide))
    · have hg := ps_good f _ _ _ h1 (by decide) 1 (by decide)
      have hb : Cl (.bin 1 d) s (.ok (c, trim r)) := hg.2 _ (.blEnd (.inr (lvl_zero fun j => hg.1 j (Nat.zero_le _))))
      split at h2
      · rename_i ho
        injection h2 with h2
        rw [← h2]
        have := Cl.coNo hb (by rw [opAt_trim]; exact ho)
        rwa [trim_trim] at this
      · rename_i ho
        have ho : opAt (trim r) = [63] := by rw [opAt_trim]; exact Classical.not_not.1 ho
        rcases andR_some h2 with ⟨k, h3, rfl⟩ | ⟨a, r2, h3, h4⟩
        · exact .coABad hb ho (by rw [aft_trim]; exact ps_good f _ _ _ h3)
        · have ha : Cl (.expr (d + 1)) (aft (trim r)) (.ok (a, r2)) := by rw [aft_trim]; exact ps_good f _ _ _ h3
          split at h4
          · rename_i ho2
            injection h4 with h4
            rw [← h4]
            exact .coColon hb ho ha ho2
          · rename_i ho2
            have ho2 : opAt r2 = [58] := Classical.not_not.1 ho2
            rcases andR_some h4 with ⟨k, h5, rfl⟩ | ⟨b, r3, h5, h6⟩
            · exact .coBBad hb ho ha ho2 (ps_good f _ _ _ h5)
            · injection h6 with h6
              rw [← h6]
              exact .coOk hb ho ha ho2 (ps_good f _ _ _ h5)
  | f + 1, .lev l d, s, q, h => by
    simp only [ps] at h
    intro hl m hm
    split at h
    · rename_i h10
      have hu : Cl (.una d) s q := ps_good f _ _ _ h
      cases q with
      | bad k => exact .binBad hu
      | ok p =>
        obtain ⟨a, r⟩ := p
        exact ⟨fun j hj hm => by have := (lv_mem hm).2; omega, fun q' hq => .bin hu hq⟩
    · rename_i h10
      rcases andR_some h with ⟨k, h1, rfl⟩ | ⟨a, r, h1, h2⟩
      · exact ps_good f _ _ _ h1 (by omega) m (by omega)
      · have hg := ps_good f _ _ _ h1 (by omega) m (by omega)
        have hb := ps_good f _ _ _ h2 (by omega) (fun j hj => hg.1 j hj) m hm
        cases q with
        | bad k => exact hg.2 _ hb
        | ok p => exact ⟨hb.1, fun q' hq => hg.2 _ (hb.2 _ hq)⟩
  | f + 1, .loop l d a, s, q, h => by
    simp only [ps] at h
    intro hl hno m hm
    split at h
    · rename_i ho
      have hlv := lvl_of ho
      have hnot : ¬ (lvl (opAt s) < m ∨ lvl (opAt s) = 0) := by omega
      rcases andR_some h with ⟨k, h1, rfl⟩ | ⟨b, r, h1, h2⟩
      · exact .blBad hnot (by rw [hlv]; exact ps_good f _ _ _ h1 (by omega) (l + 1 + 1) (by omega))
      · have hg := ps_good f _ _ _ h1 (by omega) (l + 1 + 1) (by omega)
        have hb2 := ps_good f _ _ _ h2 hl (fun j hj => hg.1 j hj) m hm
        have hlt : lvl (opAt r) < l + 1 + 1 ∨ lvl (opAt r) = 0 := by
          by_cases h0 : lvl (opAt r) = 0
          · exact .inr h0
          · have h3 := of_lvl h0
            by_cases h4 : lvl (opAt r) < l + 1 + 1
            · exact .inl h4
            · exact absurd h3.2 (hg.1 _ (by omega))
        have hbin : Cl (.bin (lvl (opAt s) + 1) d) (aft s) (.ok (b, trim r)) := by rw [hlv]; exact hg.2 _ (.blEnd hlt)
        have go : ∀ q', Cl (.bloop m d (.bin (opAt s) a b)) r q' → Cl (.bloop m d (.bin (opAt s) a b)) (trim r) q' := by
          intro q' hq
          have e : trim r = trim (trim r) := (trim_trim r).symm
          generalize hx : trim r = r' at *
          cases hq with
          | blEnd h =>
            rw [hx]
            have := Cl.blEnd (s := r') (m := m) (d := d) (a := .bin (opAt s) a b) (by rw [← hx, opAt_trim]; exact h)
            rwa [← e] at this
          | blBad h h1 => exact .blBad (by rw [← hx, opAt_trim]; exact h) (by rw [← hx, opAt_trim, aft_trim]; exact h1)
          | blStep h h1 h2 => exact .blStep (by rw [← hx, opAt_trim]; exact h) (by rw [← hx, opAt_trim, aft_trim]; exact h1) (by rw [← hx, opAt_trim]; exact h2)
        cases q with
        | bad k => exact .blStep hnot hbin (go _ hb2)
        | ok p => exact ⟨hb2.1, fun q' hq => .blStep hnot hbin (go _ (hb2.2 _ hq))⟩
    · rename_i ho
      injection h with h
      rw [← h]
      refine ⟨fun j hj => ?_, fun q' hq => bloop_trim hq⟩
      rw [opAt_trim]
      rcases Nat.eq_or_lt_of_le hj with e | e
      · rw [← e]; exact ho
      · exact hno j e
  | f + 1, .sig d, s, q, h => by
    simp only [ps] at h
    show Cl (.una d) s q
    split at h
    · rename_i hd
      injection h with h
      rw [← h]
      exact .unLong hd
    · rename_i hd
      split at h
      · rename_i ho
        rcases andR_some h with ⟨k, h1, rfl⟩ | ⟨t, r', h1, h2⟩
        · exact .unOpBad hd ho (ps_good f _ _ _ h1)
        · injection h2 with h2
          rw [← h2]
          exact .unOp hd ho (ps_good f _ _ _ h1)
      · rename_i ho
        split at h
        · rename_i hp
          rcases andR_some h with ⟨k, h1, rfl⟩ | ⟨t, r', h1, h2⟩
          · exact .unParBad hd hp (ps_good f _ _ _ h1)
          · split at h2
            · rename_i ho2
              injection h2 with h2
              rw [← h2]
              exact .unParNo hd hp (ps_good f _ _ _ h1) ho2
            · rename_i ho2
              injection h2 with h2
              rw [← h2]
              exact .unPar hd hp (ps_good f _ _ _ h1) (Classical.not_not.1 ho2)
        · rename_i hp
          injection h with h
          rw [← h]
          exact .unPrim hd ho hp
end Go.Proofs.YtgincpkggnndeaaGreatDoor
namespace Go.Proofs.YtgincpkggnndeaaGreatDoor
open Go.RowKit Vc
theorem prim_len {s r : Txt} {t : Tm} (h : prim s = .ok (t, r)) : r.length ≤ s.length := by
  unfold prim at h
  dsimp only at h
  split at h
  · obtain rfl := ok_snd h
    rw [List.length_drop]
    omega
  · split at h
    · obtain rfl := ok_snd h
      rw [List.length_drop]
      omega
    · cases h
theorem Cl_len {m : Cm} {s : Txt} {q : Pr (Tm × Txt)} (h : Cl m s q) : ∀ t r, q = .ok (t, r) → r.length ≤ s.length := by
  induction h with
  | exLong h => intro t r e; cases e
  | exSet h ha h1 ih =>
    intro t r e
    obtain rfl := ok_snd e
    have := ih _ _ rfl
    have := asg_len ha
    omega
  | exSetBad h ha h1 ih => intro t r e; cases e
  | exCond h ha h1 ih => intro t r e; exact Nat.le_trans (ih t r e) (trim_len _)
  | coBad h1 ih => intro t r e; cases e
  | coNo h1 ho ih =>
    intro t r e
    obtain rfl := ok_snd e
    exact Nat.le_trans (trim_len _) (ih _ _ rfl)
  | coABad h1 ho h2 ih1 ih2 => intro t r e; cases e
  | coColon h1 ho h2 ho2 ih1 ih2 => intro t r e; cases e
  | coBBad h1 ho h2 ho2 h3 ih1 ih2 ih3 => intro t r e; cases e
  | coOk h1 ho h2 ho2 h3 ih1 ih2 ih3 =>
    intro t r e
    obtain rfl := ok_snd e
    have a1 := ih1 _ _ rfl
    have a2 := ih2 _ _ rfl
    have a3 := ih3 _ _ rfl
    have b1 := aft_len (by rw [ho]; decide)
    have b2 := aft_len (by rw [ho2]; decide)
    omega
  | binBad h1 ih => intro t r e; cases e
  | bin h1 h2 ih1 ih2 => intro t r e; exact Nat.le_trans (ih2 t r e) (ih1 _ _ rfl)
  | blEnd h =>
    intro t r e
    obtain rfl := ok_snd e
    exact trim_len _
  | blBad h h1 ih => intro t r e; cases e
  | @blStep m d s r a b q h h1 h2 ih1 ih2 =>
    intro t r' e
    have a1 := ih1 _ _ rfl
    have a2 := ih2 t r' e
    have b1 := aft_len (s := s) (fun e => h (.inr (by rw [e]; rfl)))
    omega
  | unLong h => intro t r e; cases e
  | unOp h ho h1 ih =>
    intro t r e
    obtain rfl := ok_snd e
    have := ih _ _ rfl
    have := aft_len (sgn_ne ho)
    omega
  | unOpBad h ho h1 ih => intro t r e; cases e
  | unParBad h ho h1 ih => intro t r e; cases e
  | unParNo h ho h1 ho2 ih => intro t r e; cases e
  | unPar h ho h1 ho2 ih =>
    intro t r e
    obtain rfl := ok_snd e
    have := ih _ _ rfl
    have b1 := aft_len (by rw [ho]; decide)
    have b2 := aft_len (by rw [ho2]; decide)
    omega
  | unPrim h ho ho2 =>
    intro t r e
    exact Nat.le_trans (prim_len e) (trim_len _)
end Go.Proofs.YtgincpkggnndeaaGreatDoor
namespace Go.Proofs.YtgincpkggnndeaaGreatDoor
open Go.RowKit Vc

def truthI (b : Bool) : Int := if b = true then 1 else 0
def shN (b : Int) : Nat := min (Int.toNat (bits .and .u64 (IntKind.u64.wrap b) 63)) (IntKind.i64.bits)
def reckV (op : Txt) (a b : Int) : Int :=
  if op = [43] then IntKind.i64.wrap (a + b) else if op = [45] then IntKind.i64.wrap (a - b) else if op = [42] then IntKind.i64.wrap (a * b) else
  if op = [47] then IntKind.i64.wrap (Int.tdiv a b) else if op = [37] then Int.tmod a b else
  if op = [60, 60] then IntKind.i64.wrap (a * 2 ^ shN b) else if op = [62, 62] then Int.fdiv a (2 ^ shN b) else
  if op = [38] then bits .and .i64 a b else if op = [124] then bits .or .i64 a b else if op = [94] then bits .xor .i64 a b else
  if op = [61, 61] then truthI (decide (a = b)) else if op = [33, 61] then truthI (!decide (a = b)) else if op = [60] then truthI (decide (a < b)) else
  if op = [60, 61] then truthI (decide (a ≤ b)) else if op = [62] then truthI (decide (b < a)) else truthI (decide (b ≤ a))
def reck (op : Txt) (a b : Int) : Pr Int := if b = 0 ∧ (op = [47] ∨ op = [37]) then .bad 131 else .ok (reckV op a b)
def una (op : Txt) (n : Int) : Int := if op = [45] then IntKind.i64.wrap (0 - n) else if op = [126] then bits .xor .i64 (-1) n else if op = [33] then truthI (decide (n = 0)) else n
def getW (x : Txt) (V : List Vr) : Pr Int := match worthV (getD x V).value with
  | some n => .ok n
  | none => .bad 130
def setW (V : List Vr) (x : Txt) (z : Int) : Pr (Int × List Vr) := if (setR V x (Lib.itoa z)).2 = 0 then .ok (z, (setR V x (Lib.itoa z)).1) else .bad (setR V x (Lib.itoa z)).2.toNat
def andP {α β : Type} (r : Pr α) (f : α → Pr β) : Pr β := match r with
  | .bad k => .bad k
  | .ok a => f a
def ev : Tm → List Vr → Pr (Int × List Vr)
  | .num n, V => .ok (n, V)
  | .nam x, V => andP (getW x V) fun n => .ok (n, V)
  | .sgn op t, V => andP (ev t V) fun p => .ok (una op p.1, p.2)
  | .bin op a b, V => andP (ev a V) fun p =>
    if op = [124, 124] then (if p.1 ≠ 0 then .ok (1, p.2) else andP (ev b p.2) fun q => .ok (truthI (!decide (q.1 = 0)), q.2))
    else if op = [38, 38] then (if p.1 = 0 then .ok (0, p.2) else andP (ev b p.2) fun q => .ok (truthI (!decide (q.1 = 0)), q.2))
    else andP (ev b p.2) fun q => andP (reck op p.1 q.1) fun z => .ok (z, q.2)
  | .cho c a b, V => andP (ev c V) fun p => if p.1 ≠ 0 then ev a p.2 else ev b p.2
  | .set x op t, V => andP (ev t V) fun p => andP (if op = [] then .ok p.1 else andP (getW x p.2) fun m => reck op m p.1) fun z => setW p.2 x z
abbrev I64 (n : Int) : Prop := -9223372036854775808 ≤ n ∧ n < 9223372036854775808
def binOps : List Txt := [[124], [94], [38], [61, 61], [33, 61], [60], [60, 61], [62], [62, 61], [60, 60], [62, 62], [43], [45], [42], [47], [37]]
def TmOk : Tm → Prop
  | .num n => I64 n
  | .nam _ => True
  | .sgn op t => op ∈ sgnOps ∧ TmOk t
  | .bin op a b => (op = [124, 124] ∨ op = [38, 38] ∨ op ∈ binOps) ∧ TmOk a ∧ TmOk b
  | .cho c a b => TmOk c ∧ TmOk a ∧ TmOk b
  | .set x op t => (op = [] ∨ op ∈ binOps) ∧ isName x = true ∧ TmOk t
theorem lv_bin {o : Txt} {l : Nat} (h : o ∈ lv l) : o = [124, 124] ∨ o = [38, 38] ∨ o ∈ binOps := by
  have hl := (lv_mem h).2
  have : ∀ l, l < 10 → ∀ o ∈ lv l, o = [124, 124] ∨ o = [38, 38] ∨ o ∈ binOps := by decide
  exact this l hl o h
theorem prim_ok {s r : Txt} {t : Tm} (h : prim s = .ok (t, r)) : TmOk t := by
  unfold prim at h
  dsimp only at h
  split at h
  · injection h with h
    injection h with h _
    rw [← h]
    exact True.intro
  · split at h
    · rename_i n hn
      injection h with h
      injection h with h _
      rw [← h]
      have := numV_range hn
      exact ⟨by omega, this.2⟩
    · cases h
theorem nameN_take : ∀ (b : Bool) (s : Txt), nameN b (s.take (nameN b s)) = nameN b s
  | _, [] => rfl
  | b, c :: s => by
    simp only [nameN]
    split
    · rename_i h
      rw [List.take_succ_cons]
      simp only [nameN]
      rw [if_pos h, nameN_take false s]
    · rw [List.take_zero]
      rfl
theorem asg_ok {s n o r : Txt} (h : asg s = some (n, o, r)) : (o.dropLast = [] ∨ o.dropLast ∈ binOps) ∧ isName n = true ∧ o ∈ asgOps := by
  unfold asg at h
  dsimp only at h
  split at h
  · rename_i hc
    injection h with h
    injection h with h1 h2
    injection h2 with h2 h3
    have key : ∀ o ∈ asgOps, o.dropLast = [] ∨ o.dropLast ∈ binOps := by decide
    refine ⟨by rw [← h2]; exact key _ hc.2, ?_, by rw [← h2]; exact hc.2⟩
    rw [← h1]
    have hle := nameN_le true (trim s)
    unfold isName
    rw [nameN_take, List.length_take, Nat.min_eq_left hle]
    rw [decide_eq_true rfl, Bool.and_true, decide_eq_false]
    · rfl
    · intro e
      have := congrArg List.length e
      rw [List.length_take, List.length_nil] at this
      omega
  · cases h
theorem Cl_ok {m : Cm} {s : Txt} {q : Pr (Tm × Txt)} (h : Cl m s q) : ∀ t r, q = .ok (t, r) → (∀ l d a, m = .bloop l d a → TmOk a) → TmOk t := by
  have fst : ∀ {t t' : Tm} {s s' : Txt}, (Pr.ok (t, s) : Pr (Tm × Txt)) = .ok (t', s') → t = t' := by
    intro t t' s s' e
    injection e with e
    injection e with e _
  induction h with
  | exLong h => intro t r e; cases e
  | exSet h ha h1 ih =>
    intro t r e _
    obtain rfl := fst e
    have := asg_ok ha
    exact ⟨this.1, this.2.1, ih _ _ rfl (fun _ _ _ e => by cases e)⟩
  | exSetBad h ha h1 ih => intro t r e; cases e
  | exCond h ha h1 ih => intro t r e _; exact ih t r e (fun _ _ _ e => by cases e)
  | coBad h1 ih => intro t r e; cases e
  | coNo h1 ho ih =>
    intro t r e _
    obtain rfl := fst e
    exact ih _ _ rfl (fun _ _ _ e => by cases e)
  | coABad h1 ho h2 ih1 ih2 => intro t r e; cases e
  | coColon h1 ho h2 ho2 ih1 ih2 => intro t r e; cases e
  | coBBad h1 ho h2 ho2 h3 ih1 ih2 ih3 => intro t r e; cases e
  | coOk h1 ho h2 ho2 h3 ih1 ih2 ih3 =>
    intro t r e _
    obtain rfl := fst e
    exact ⟨ih1 _ _ rfl (fun _ _ _ e => by cases e), ih2 _ _ rfl (fun _ _ _ e => by cases e), ih3 _ _ rfl (fun _ _ _ e => by cases e)⟩
  | binBad h1 ih => intro t r e; cases e
  | bin h1 h2 ih1 ih2 =>
    intro t r e _
    exact ih2 t r e (fun _ _ _ e => by injection e with _ _ e; rw [← e]; exact ih1 _ _ rfl (fun _ _ _ e => by cases e))
  | blEnd h =>
    intro t r e ha
    obtain rfl := fst e
    exact ha _ _ _ rfl
  | blBad h h1 ih => intro t r e; cases e
  | @blStep m d s r a b q h h1 h2 ih1 ih2 =>
    intro t r' e ha
    refine ih2 t r' e (fun _ _ _ e => ?_)
    injection e with _ _ e
    rw [← e]
    exact ⟨lv_bin (of_lvl (fun e => h (.inr e))).2, ha _ _ _ rfl, ih1 _ _ rfl (fun _ _ _ e => by cases e)⟩
  | unLong h => intro t r e; cases e
  | unOp h ho h1 ih =>
    intro t r e _
    obtain rfl := fst e
    exact ⟨ho, ih _ _ rfl (fun _ _ _ e => by cases e)⟩
  | unOpBad h ho h1 ih => intro t r e; cases e
  | unParBad h ho h1 ih => intro t r e; cases e
  | unParNo h ho h1 ho2 ih => intro t r e; cases e
  | unPar h ho h1 ho2 ih =>
    intro t r e _
    obtain rfl := fst e
    exact ih _ _ rfl (fun _ _ _ e => by cases e)
  | unPrim h ho ho2 => intro t r e _; exact prim_ok e
/-- What stands to the left is reckoned first. -/
theorem Cl_left {m : Cm} {s : Txt} {q : Pr (Tm × Txt)} (h : Cl m s q) : ∀ l d a t r, m = .bloop l d a → q = .ok (t, r) → ∀ V k, ev a V = .bad k → ev t V = .bad k := by
  induction h with
  | blEnd h =>
    intro l d a t r e1 e2 V k hk
    injection e1 with _ _ e1
    injection e2 with e2
    injection e2 with e2 _
    rw [← e2, e1]
    exact hk
  | @blStep m d s r a b q h h1 h2 ih1 ih2 =>
    intro l d' a' t r' e1 e2 V k hk
    injection e1 with _ _ e1
    refine ih2 _ _ _ t r' rfl e2 V k ?_
    simp only [ev]
    rw [e1, hk]
    rfl
  | _ => intro l d a t r e1 e2; first | (cases e2; done) | (cases e1; done)
end Go.Proofs.YtgincpkggnndeaaGreatDoor
namespace Go.Proofs.YtgincpkggnndeaaGreatDoor
open Go.RowKit Vc

abbrev suf : Txt := [32, 41, 9]
theorem trim_app {s : Txt} (h : trim s ≠ []) (u : Txt) : trim (s ++ u) = trim s ++ u := by
  induction s with
  | nil => exact absurd rfl h
  | cons c s ih =>
    unfold trim at ih h ⊢
    rw [List.cons_append, List.dropWhile_cons]
    rw [List.dropWhile_cons] at h
    by_cases hb : blank3 c = true
    · rw [if_pos hb] at h ⊢
      rw [List.dropWhile_cons, if_pos hb]
      exact ih h
    · rw [if_neg hb, List.dropWhile_cons, if_neg hb]
      rfl
theorem trim_app_nil {s : Txt} (h : trim s = []) (u : Txt) : trim (s ++ u) = trim u := by
  induction s with
  | nil => rfl
  | cons c s ih =>
    unfold trim at ih h ⊢
    rw [List.dropWhile_cons] at h
    rw [List.cons_append, List.dropWhile_cons]
    by_cases hb : blank3 c = true
    · rw [if_pos hb] at h ⊢
      exact ih h
    · rw [if_neg hb] at h
      cases h
theorem prefix_app {o : Txt} (ho : (32 : UInt8) ∉ o) : ∀ x y : Txt, o.isPrefixOf (x ++ 32 :: y) = o.isPrefixOf x := by
  induction o with
  | nil => intro x y; simp
  | cons c o ih =>
    intro x y
    simp only [List.mem_cons, not_or] at ho
    cases x with
    | nil =>
      simp only [List.nil_append, List.isPrefixOf]
      rw [show (c == 32) = false from by simp; exact fun e => ho.1 e.symm]
      rfl
    | cons a x =>
      simp only [List.cons_append, List.isPrefixOf]
      rw [ih ho.2]
theorem opAt_app {s : Txt} (h : trim s ≠ []) (y : Txt) : opAt (s ++ 32 :: y) = opAt s := by
  unfold opAt
  rw [trim_app h]
  have key : ∀ l : List Txt, (∀ o ∈ l, (32 : UInt8) ∉ o) → l.find? (fun o => o.isPrefixOf (trim s ++ 32 :: y)) = l.find? (fun o => o.isPrefixOf (trim s)) := by
    intro l
    induction l with
    | nil => intro _; rfl
    | cons o l ih =>
      intro hl
      rw [List.find?_cons, List.find?_cons, prefix_app (hl o (by simp)), ih fun o ho => hl o (by simp [ho])]
  rw [key allOps (by decide)]
theorem opAt_nil {s : Txt} (h : trim s = []) : opAt s = [] := by
  have e : opAt (trim s) = opAt s := opAt_trim s
  rw [← e, h]
  decide
theorem opAt_suf {s : Txt} (h : trim s = []) : opAt (s ++ suf) = [41] := by
  have e : opAt (trim (s ++ suf)) = opAt (s ++ suf) := opAt_trim _
  rw [← e, trim_app_nil h]
  decide
theorem opAt_iff {s o : Txt} (ho : o ≠ [41]) (hn : o ≠ []) : opAt (s ++ suf) = o ↔ opAt s = o := by
  by_cases h : trim s = []
  · rw [opAt_nil h, opAt_suf h]
    exact ⟨fun e => absurd e.symm ho, fun e => absurd e.symm hn⟩
  · rw [opAt_app h]
theorem opAt_in {s : Txt} {L : List Txt} (h1 : [41] ∉ L) (h2 : [] ∉ L) : opAt (s ++ suf) ∈ L ↔ opAt s ∈ L := by
  by_cases h : trim s = []
  · rw [opAt_nil h, opAt_suf h]
    exact ⟨fun e => absurd e h1, fun e => absurd e h2⟩
  · rw [opAt_app h]
theorem aft_app {s : Txt} (h : opAt s ≠ []) : opAt (s ++ suf) = opAt s ∧ aft (s ++ suf) = aft s ++ suf := by
  have ht : trim s ≠ [] := fun e => h (opAt_nil e)
  have h1 := opAt_app ht [41, 9]
  refine ⟨h1, ?_⟩
  unfold aft
  rw [trim_app ht, h1]
  have h2 := (opAt_mem h).2
  rw [List.isPrefixOf_iff_prefix] at h2
  rw [List.drop_append_of_le_length h2.length_le]
theorem nameN_app : ∀ (b : Bool) (x y : Txt), nameN b (x ++ 32 :: y) = nameN b x
  | b, [], y => by
    have : letter 32 = false := by decide
    have h2 : digit 32 = false := by decide
    simp [nameN, this, h2]
  | b, c :: x, y => by
    simp only [List.cons_append, nameN]
    rw [nameN_app false x y]
theorem wordN_app : ∀ x y : Txt, wordN (x ++ 32 :: y) = wordN x := by
  intro x y
  unfold wordN
  induction x with
  | nil =>
    rw [List.nil_append, List.takeWhile_cons, if_neg (by decide)]
    rfl
  | cons c x ih =>
    rw [List.cons_append, List.takeWhile_cons, List.takeWhile_cons]
    split
    · rw [List.length_cons, List.length_cons, ih]
    · rfl
theorem asg_app (s : Txt) : asg (s ++ suf) = (asg s).map fun p => (p.1, p.2.1, p.2.2 ++ suf) := by
  by_cases h : trim s = []
  · unfold asg
    dsimp only
    rw [trim_app_nil h, h, if_neg (by intro e; exact e.1 (by decide)), if_neg (by intro e; exact e.1 (by decide))]
    rfl
  · unfold asg
    dsimp only
    rw [trim_app h]
    have hn : nameN true (trim s ++ suf) = nameN true (trim s) := nameN_app _ _ _
    have hle := nameN_le true (trim s)
    rw [hn, List.take_append_of_le_length hle, List.drop_append_of_le_length hle]
    have hi := opAt_in (s := (trim s).drop (nameN true (trim s))) (L := asgOps) (by decide) (by decide)
    by_cases hc : nameN true (trim s) ≠ 0 ∧ opAt ((trim s).drop (nameN true (trim s))) ∈ asgOps
    · have ha := aft_app (asgOps_ne hc.2)
      rw [if_pos hc, if_pos ⟨hc.1, hi.2 hc.2⟩, ha.1, ha.2]
      rfl
    · rw [if_neg hc, if_neg (fun e => hc ⟨e.1, hi.1 e.2⟩)]
      rfl
theorem prim_app {s r : Txt} {t : Tm} (h : prim s = .ok (t, r)) : prim (s ++ suf) = .ok (t, r ++ suf) := by
  unfold prim at h ⊢
  dsimp only at h ⊢
  have hw : wordN (s ++ suf) = wordN s := wordN_app _ _
  have hle := wordN_le s
  rw [hw, List.take_append_of_le_length hle, List.drop_append_of_le_length hle]
  split at h
  · rename_i hn
    rw [if_pos hn]
    injection h with h
    injection h with h1 h2
    rw [h1, h2]
  · rename_i hn
    rw [if_neg hn]
    split at h
    · rename_i n hv
      injection h with h
      injection h with h1 h2
      rw [← h1, ← h2]
    · cases h
theorem ps_trim : ∀ (f : Nat) (m : Md) (s : Txt), ps f m (trim s) = ps f m s
  | 0, _, _ => rfl
  | f + 1, .expr d, s => by
    have ha : asg (trim s) = asg s := by unfold asg; dsimp only; rw [trim_trim]
    simp only [ps, ha, trim_trim]
  | f + 1, .cho d, s => by simp only [ps, ps_trim f (.lev 0 d) s]
  | f + 1, .lev l d, s => by simp only [ps, ps_trim f (.sig d) s, ps_trim f (.lev (l + 1) d) s]
  | f + 1, .loop l d a, s => by simp only [ps, opAt_trim, aft_trim, trim_trim]
  | f + 1, .sig d, s => by simp only [ps, opAt_trim, aft_trim, trim_trim]
theorem ps_sim {f : Nat} {m : Md} {s s' : Txt} (h : trim s = trim s') : ps f m s = ps f m s' := by rw [← ps_trim f m s, h, ps_trim]
def isOpC (c : UInt8) : Bool := allOps.any fun o => o.contains c
def oc (s : Txt) : Nat := (s.filter isOpC).length
theorem oc_app (a b : Txt) : oc (a ++ b) = oc a + oc b := by simp [oc]
theorem oc_drop (s : Txt) (k : Nat) : oc (s.drop k) ≤ oc s := by
  have := oc_app (s.take k) (s.drop k)
  rw [List.take_append_drop] at this
  omega
theorem oc_trim (s : Txt) : oc (trim s) ≤ oc s := by
  induction s with
  | nil => exact Nat.le_refl _
  | cons c s ih =>
    have h : oc (c :: s) = oc [c] + oc s := oc_app [c] s
    unfold trim at ih ⊢
    rw [List.dropWhile_cons]
    split
    · omega
    · exact Nat.le_refl _
theorem oc_aft {s : Txt} (h : opAt s ≠ []) : oc (aft s) + 1 ≤ oc s := by
  obtain ⟨h1, h2⟩ := opAt_mem h
  have h3 : ∀ o ∈ allOps, 1 ≤ oc o := by decide
  rw [List.isPrefixOf_iff_prefix] at h2
  obtain ⟨u, hu⟩ := h2
  have h4 := oc_trim s
  have h5 := h3 _ h1
  unfold aft
  rw [← hu, List.drop_left]
  rw [← hu, oc_app] at h4
  omega
def deep : Md → Nat
  | .expr d => d
  | .cho d => d
  | .lev _ d => d
  | .loop _ d _ => d
  | .sig d => d
def up : Md → Md
  | .expr d => .expr (d + 1)
  | .cho d => .cho (d + 1)
  | .lev l d => .lev l (d + 1)
  | .loop l d a => .loop l (d + 1) a
  | .sig d => .sig (d + 1)
theorem okR {r : Rs} {f : Tm → Txt → Rs} {t : Tm} {u : Txt} (h : andR r f = some (.ok (t, u))) : ∃ a b, r = some (.ok (a, b)) ∧ f a b = some (.ok (t, u)) := by
  rcases andR_some h with ⟨k, _, e⟩ | ⟨a, b, h1, h2⟩
  · cases e
  · exact ⟨a, b, h1, h2⟩
/-- A text is read one deeper, and with what follows behind, as it was; and what is left has no more operators than there were. -/
theorem ps_up : ∀ (f : Nat) (m : Md) (s : Txt) (t : Tm) (r : Txt), ps f m s = some (.ok (t, r)) → deep m + oc s ≤ 29 → oc r ≤ oc s ∧ ∃ r', ps f (up m) (s ++ suf) = some (.ok (t, r')) ∧ trim r' = trim (r ++ suf)
  | 0, _, _, _, _, h, _ => by simp [ps] at h
  | f + 1, .expr d, s, t, r, h, hd => by
    simp only [deep] at hd
    simp only [ps, up] at h ⊢
    rw [if_neg (by omega)] at h ⊢
    rw [asg_app]
    cases ha : asg s with
    | some p =>
      obtain ⟨n, o, u⟩ := p
      rw [ha] at h
      dsimp only [Option.map] at h ⊢
      obtain ⟨a, b, h1, h2⟩ := okR h
      injection h2 with h2
      injection h2 with h2
      injection h2 with e1 e2
      have hoc : oc u + 1 ≤ oc s := by
        unfold asg at ha
        dsimp only at ha
        split at ha
        · rename_i hc
          injection ha with ha
          injection ha with _ ha
          injection ha with _ ha
          rw [← ha]
          have g1 := oc_aft (asgOps_ne hc.2)
          have g2 := oc_drop (trim s) (nameN true (trim s))
          have g3 := oc_trim s
          omega
        · cases ha
      obtain ⟨i1, r', i2, i3⟩ := ps_up f _ _ _ _ h1 (by simp only [deep]; omega)
      rw [← e1, ← e2]
      refine ⟨by omega, r', ?_, i3⟩
      rw [show ps f (.expr (d + 1 + 1)) (u ++ suf) = some (.ok (a, r')) from i2]
      rfl
    | none =>
      rw [ha] at h
      dsimp only [Option.map] at h ⊢
      have ht := oc_trim s
      obtain ⟨i1, r', i2, i3⟩ := ps_up f _ _ _ _ h (by simp only [deep]; omega)
      refine ⟨by omega, r', ?_, i3⟩
      rw [← i2]
      refine ps_sim ?_
      rw [trim_trim]
      by_cases h0 : trim s = []
      · rw [trim_app_nil h0, h0]
        rfl
      · rw [trim_app h0, trim_app (by rw [trim_trim]; exact h0), trim_trim]
  | f + 1, .cho d, s, t, r, h, hd => by
    simp only [deep] at hd
    simp only [ps, up] at h ⊢
    obtain ⟨c, u, h1, h2⟩ := okR h
    obtain ⟨i1, u', i2, i3⟩ := ps_up f _ _ _ _ h1 (by simp only [deep]; omega)
    rw [show ps f (.lev 0 (d + 1)) (s ++ suf) = some (.ok (c, u')) from i2]
    simp only [andR]
    have eo : opAt u' = opAt (u ++ suf) := by rw [← opAt_trim u', i3, opAt_trim]
    have ea : aft u' = aft (u ++ suf) := by rw [← aft_trim u', i3, aft_trim]
    have hq := opAt_iff (s := u) (o := [63]) (by decide) (by decide)
    rw [eo]
    split at h2
    · rename_i ho
      rw [if_pos (fun e => ho (hq.1 e))]
      injection h2 with h2
      injection h2 with h2
      injection h2 with e1 e2
      rw [← e1, ← e2]
      have := oc_trim u
      refine ⟨by omega, _, rfl, ?_⟩
      rw [trim_trim, i3]
      by_cases h0 : trim u = []
      · rw [trim_app_nil h0, h0]
        rfl
      · rw [trim_app h0, trim_app (by rw [trim_trim]; exact h0), trim_trim]
    · rename_i ho
      have ho : opAt u = [63] := Classical.not_not.1 ho
      rw [if_neg (fun e => e (hq.2 ho)), ea]
      obtain ⟨a, v, h3, h4⟩ := okR h2
      have hau := aft_app (s := u) (by rw [ho]; decide)
      have hoa := oc_aft (s := u) (by rw [ho]; decide)
      obtain ⟨j1, v', j2, j3⟩ := ps_up f _ _ _ _ h3 (by simp only [deep]; omega)
      rw [hau.2, show ps f (.expr (d + 1 + 1)) (aft u ++ suf) = some (.ok (a, v')) from j2]
      dsimp only
      have eo2 : opAt v' = opAt (v ++ suf) := by rw [← opAt_trim v', j3, opAt_trim]
      have ea2 : aft v' = aft (v ++ suf) := by rw [← aft_trim v', j3, aft_trim]
      have hq2 := opAt_iff (s := v) (o := [58]) (by decide) (by decide)
      rw [eo2, ea2]
      split at h4
      · cases h4
      · rename_i ho2
        have ho2 : opAt v = [58] := Classical.not_not.1 ho2
        rw [if_neg (fun e => e (hq2.2 ho2))]
        obtain ⟨b, x, h5, h6⟩ := okR h4
        have hav := aft_app (s := v) (by rw [ho2]; decide)
        have hob := oc_aft (s := v) (by rw [ho2]; decide)
        obtain ⟨l1, x', l2, l3⟩ := ps_up f _ _ _ _ h5 (by simp only [deep]; omega)
        rw [hav.2, show ps f (.cho (d + 1 + 1)) (aft v ++ suf) = some (.ok (b, x')) from l2]
        injection h6 with h6
        injection h6 with h6
        injection h6 with e1 e2
        rw [← e1, ← e2]
        exact ⟨by omega, x', rfl, l3⟩
  | f + 1, .lev l d, s, t, r, h, hd => by
    simp only [deep] at hd
    simp only [ps, up] at h ⊢
    split at h
    · rename_i hl
      rw [if_pos hl]
      exact ps_up f _ _ _ _ h (by simp only [deep]; omega)
    · rename_i hl
      rw [if_neg hl]
      obtain ⟨a, u, h1, h2⟩ := okR h
      obtain ⟨i1, u', i2, i3⟩ := ps_up f _ _ _ _ h1 (by simp only [deep]; omega)
      obtain ⟨j1, v', j2, j3⟩ := ps_up f _ _ _ _ h2 (by simp only [deep]; omega)
      rw [show ps f (.lev (l + 1) (d + 1)) (s ++ suf) = some (.ok (a, u')) from i2]
      refine ⟨by omega, v', ?_, j3⟩
      simp only [andR]
      rw [← show ps f (.loop l (d + 1) a) (u ++ suf) = some (.ok (t, v')) from j2]
      exact ps_sim i3
  | f + 1, .loop l d a, s, t, r, h, hd => by
    simp only [deep] at hd
    simp only [ps, up] at h ⊢
    have n41 : [41] ∉ lv l := by
      intro e
      have hl := (lv_mem e).2
      have : ∀ l, l < 10 → [41] ∉ lv l := by decide
      exact this l hl e
    have hin := opAt_in (s := s) n41 (fun e => lv_ne e rfl)
    split at h
    · rename_i ho
      rw [if_pos (hin.2 ho)]
      obtain ⟨b, u, h1, h2⟩ := okR h
      have hau := aft_app (lv_ne ho)
      have hoa := oc_aft (lv_ne ho)
      obtain ⟨i1, u', i2, i3⟩ := ps_up f _ _ _ _ h1 (by simp only [deep]; omega)
      obtain ⟨j1, v', j2, j3⟩ := ps_up f _ _ _ _ h2 (by simp only [deep]; omega)
      rw [hau.1, hau.2, show ps f (.lev (l + 1) (d + 1)) (aft s ++ suf) = some (.ok (b, u')) from i2]
      refine ⟨by omega, v', ?_, j3⟩
      simp only [andR]
      rw [← show ps f (.loop l (d + 1) (.bin (opAt s) a b)) (u ++ suf) = some (.ok (t, v')) from j2]
      exact ps_sim i3
    · rename_i ho
      rw [if_neg (fun e => ho (hin.1 e))]
      injection h with h
      injection h with h
      injection h with e1 e2
      rw [← e1, ← e2]
      have := oc_trim s
      refine ⟨by omega, _, rfl, ?_⟩
      rw [trim_trim]
      by_cases h0 : trim s = []
      · rw [trim_app_nil h0, h0]
        rfl
      · rw [trim_app h0, trim_app (by rw [trim_trim]; exact h0), trim_trim]
  | f + 1, .sig d, s, t, r, h, hd => by
    simp only [deep] at hd
    simp only [ps, up] at h ⊢
    rw [if_neg (by omega)] at h ⊢
    have hin := opAt_in (s := s) (L := sgnOps) (by decide) (by decide)
    have hq := opAt_iff (s := s) (o := [40]) (by decide) (by decide)
    split at h
    · rename_i ho
      rw [if_pos (hin.2 ho)]
      obtain ⟨b, u, h1, h2⟩ := okR h
      have hau := aft_app (sgn_ne ho)
      have hoa := oc_aft (sgn_ne ho)
      obtain ⟨i1, u', i2, i3⟩ := ps_up f _ _ _ _ h1 (by simp only [deep]; omega)
      rw [hau.1, hau.2, show ps f (.sig (d + 1 + 1)) (aft s ++ suf) = some (.ok (b, u')) from i2]
      injection h2 with h2
      injection h2 with h2
      injection h2 with e1 e2
      rw [← e1, ← e2]
      exact ⟨by omega, u', rfl, i3⟩
    · rename_i ho
      rw [if_neg (fun e => ho (hin.1 e))]
      split at h
      · rename_i hp
        rw [if_pos (hq.2 hp)]
        obtain ⟨b, u, h1, h2⟩ := okR h
        have hau := aft_app (s := s) (by rw [hp]; decide)
        have hoa := oc_aft (s := s) (by rw [hp]; decide)
        obtain ⟨i1, u', i2, i3⟩ := ps_up f _ _ _ _ h1 (by simp only [deep]; omega)
        rw [hau.2, show ps f (.expr (d + 1 + 1)) (aft s ++ suf) = some (.ok (b, u')) from i2]
        split at h2
        · cases h2
        · rename_i ho2
          have ho2 : opAt u = [41] := Classical.not_not.1 ho2
          have hav := aft_app (s := u) (by rw [ho2]; decide)
          have hob := oc_aft (s := u) (by rw [ho2]; decide)
          have eo : opAt u' = opAt (u ++ suf) := by rw [← opAt_trim u', i3, opAt_trim]
          have ea : aft u' = aft (u ++ suf) := by rw [← aft_trim u', i3, aft_trim]
          injection h2 with h2
          injection h2 with h2
          injection h2 with e1 e2
          rw [← e1, ← e2]
          simp only [andR]
          rw [eo, ea, hav.1, if_neg (fun e => e ho2), hav.2]
          exact ⟨by omega, _, rfl, rfl⟩
      · rename_i hp
        rw [if_neg (fun e => hp (hq.1 e))]
        injection h with h
        have hne : trim s ≠ [] := by
          intro e
          rw [e] at h
          have : prim [] = .bad 130 := rfl
          rw [this] at h
          cases h
        have hl := prim_app h
        rw [trim_app hne, hl]
        refine ⟨?_, _, rfl, rfl⟩
        have h1 := oc_trim s
        unfold prim at h
        dsimp only at h
        have h2 := oc_drop (trim s) (wordN (trim s))
        split at h
        · obtain rfl := ok_snd h
          omega
        · split at h
          · obtain rfl := ok_snd h
            omega
          · cases h
end Go.Proofs.YtgincpkggnndeaaGreatDoor
