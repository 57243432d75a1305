/- Expressions of numbers: the program's reading of a text, as a plain function with fuel; the reference's way of reading, as a relation; the one gives the other. Conditions: none; no program is named. -/
import Derived.Test.YtgincpkggnndeaaGreatDoorVar
import Derived.Test.YtgincpkggnndeaaGreatDoorNum
namespace Go.Proofs.YtgincpkggnndeaaGreatDoor
open Go.RowKit Vc

def blank3 (c : UInt8) : Bool := c == 32 || c == 9 || c == 10
def trim (s : Txt) : Txt := s.dropWhile blank3
theorem trim_len (s : Txt) : (trim s).length ≤ s.length := by
  induction s with
  | nil => exact Nat.le_refl _
  | cons c s ih =>
    unfold trim
    rw [List.dropWhile_cons]
    split
    · exact Nat.le_trans ih (by simp)
    · exact Nat.le_refl _
theorem trim_trim (s : Txt) : trim (trim s) = trim s := by
  induction s with
  | nil => rfl
  | cons c s ih =>
    unfold trim at ih ⊢
    by_cases h : blank3 c = true
    · rw [List.dropWhile_cons, if_pos h]
      exact ih
    · rw [List.dropWhile_cons, if_neg h, List.dropWhile_cons, if_neg h]
def allOps : List Txt := [[60, 60], [62, 62], [60, 61], [62, 61], [61, 61], [33, 61], [38, 38], [124, 124], [43, 61], [45, 61], [42, 61], [47, 61], [37, 61], [43], [45], [42], [47], [37], [60], [62], [38], [124], [94], [63], [58], [61], [33], [126], [40], [41]]
def lvOps : List (List Txt) := [[[124, 124]], [[38, 38]], [[124]], [[94]], [[38]], [[61, 61], [33, 61]], [[60], [60, 61], [62], [62, 61]], [[60, 60], [62, 62]], [[43], [45]], [[42], [47], [37]]]
def lv (l : Nat) : List Txt := lvOps.getD l []
def asgOps : List Txt := [[61], [43, 61], [45, 61], [42, 61], [47, 61], [37, 61]]
def sgnOps : List Txt := [[45], [43], [126], [33]]
/-- The operator at the head, blanks let go. -/
def opAt (s : Txt) : Txt := (allOps.find? (fun o => o.isPrefixOf (trim s))).getD []
theorem opAt_trim (s : Txt) : opAt (trim s) = opAt s := by unfold opAt; rw [trim_trim]
theorem opAt_mem {s : Txt} (h : opAt s ≠ []) : opAt s ∈ allOps ∧ (opAt s).isPrefixOf (trim s) = true := by
  unfold opAt at h ⊢
  cases hf : allOps.find? (fun o => o.isPrefixOf (trim s)) with
  | none => rw [hf] at h; exact absurd rfl h
  | some o => exact ⟨List.mem_of_find?_eq_some hf, List.find?_some (p := fun o : Txt => o.isPrefixOf (trim s)) hf⟩
/-- What is behind the operator. -/
def aft (s : Txt) : Txt := (trim s).drop (opAt s).length
theorem aft_trim (s : Txt) : aft (trim s) = aft s := by unfold aft; rw [trim_trim, opAt_trim]
theorem aft_len {s : Txt} (h : opAt s ≠ []) : (aft s).length < s.length := by
  have h1 := trim_len s
  have h2 := (opAt_mem h).2
  have h3 : (opAt s).length ≤ (trim s).length := by
    rw [List.isPrefixOf_iff_prefix] at h2
    exact h2.length_le
  have h4 : 0 < (opAt s).length := List.length_pos_iff.2 h
  unfold aft
  rw [List.length_drop]
  omega
/-- An assignment's head: its name, its operator, what is behind. -/
def asg (s : Txt) : Option (Txt × Txt × Txt) :=
  let t := trim s
  let n := nameN true t
  let r := t.drop n
  if n ≠ 0 ∧ opAt r ∈ asgOps then some (t.take n, opAt r, aft r) else none
theorem asgOps_ne {o : Txt} (h : o ∈ asgOps) : o ≠ [] := by
  intro e
  subst e
  revert h
  decide
theorem asg_len {s n o r : Txt} (h : asg s = some (n, o, r)) : r.length < s.length := by
  unfold asg at h
  dsimp only at h
  split at h
  · rename_i hc
    injection h with h
    injection h with h1 h2
    injection h2 with h2 h3
    rw [← h3]
    have := aft_len (asgOps_ne hc.2)
    have := trim_len s
    rw [List.length_drop] at *
    omega
  · cases h
inductive Tm where
  | num (n : Int)
  | nam (x : Txt)
  | sgn (op : Txt) (t : Tm)
  | bin (op : Txt) (a b : Tm)
  | cho (c a b : Tm)
  | set (x op : Txt) (t : Tm)
theorem ok_snd {t t' : Tm} {s s' : Txt} (e : (Pr.ok (t, s) : Pr (Tm × Txt)) = .ok (t', s')) : s = s' := by
  injection e with e
  injection e with _ e
inductive Md where
  | expr (d : Nat)
  | cho (d : Nat)
  | lev (l d : Nat)
  | loop (l d : Nat) (a : Tm)
  | sig (d : Nat)
def isWordC (c : UInt8) : Bool := letter c || digit c
def wordN (s : Txt) : Nat := (s.takeWhile isWordC).length
theorem wordN_le (s : Txt) : wordN s ≤ s.length := (List.takeWhile_prefix _).length_le
/-- A number's text's worth. -/
def isHexC (c : UInt8) : Bool := decide (48 ≤ c.toNat) && decide (c.toNat ≤ 57) || decide (97 ≤ c.toNat) && decide (c.toNat ≤ 102) || decide (65 ≤ c.toNat) && decide (c.toNat ≤ 70)
def baseOf (s : Txt) : Nat × Txt := match s with
  | a :: b :: c :: r => if a = 48 ∧ (b = 120 ∨ b = 88) then (16, c :: r) else if a = 48 then (8, s) else (10, s)
  | [a, _] => if a = 48 then (8, s) else (10, s)
  | _ => (10, s)
def numV (s : Txt) : Option Int := if (baseOf s).2.all isHexC = true then (match parseI (baseOf s).1 (baseOf s).2 with | .ok n => some n | .bad _ => none) else none
/-- What stands for itself: a number, or a name. -/
def prim (s : Txt) : Pr (Tm × Txt) :=
  let w := s.take (wordN s)
  let r := s.drop (wordN s)
  if isName w = true then .ok (.nam w, r) else match numV w with
    | some n => .ok (.num n, r)
    | none => .bad 130
abbrev Rs := Option (Pr (Tm × Txt))
def andR (r : Rs) (f : Tm → Txt → Rs) : Rs := match r with
  | none => none
  | some (.bad k) => some (.bad k)
  | some (.ok (t, s)) => f t s
theorem andR_some {r : Rs} {f : Tm → Txt → Rs} {q : Pr (Tm × Txt)} (h : andR r f = some q) : (∃ k, r = some (.bad k) ∧ q = .bad k) ∨ ∃ t s, r = some (.ok (t, s)) ∧ f t s = some q := by
  unfold andR at h
  split at h
  · cases h
  · injection h with h
    exact .inl ⟨_, rfl, h.symm⟩
  · exact .inr ⟨_, _, rfl, h⟩
def ps : Nat → Md → Txt → Rs
  | 0, _, _ => none
  | f + 1, .expr d, s => if 30 < d then some (.bad 2) else match asg s with
    | some (n, o, r) => andR (ps f (.expr (d + 1)) r) fun t r' => some (.ok (.set n o.dropLast t, r'))
    | none => ps f (.cho d) (trim s)
  | f + 1, .cho d, s => andR (ps f (.lev 0 d) s) fun c r => if opAt r ≠ [63] then some (.ok (c, trim r)) else
      andR (ps f (.expr (d + 1)) (aft r)) fun a r2 => if opAt r2 ≠ [58] then some (.bad 130) else
        andR (ps f (.cho (d + 1)) (aft r2)) fun b r3 => some (.ok (.cho c a b, r3))
  | f + 1, .lev l d, s => if 10 ≤ l then ps f (.sig d) s else andR (ps f (.lev (l + 1) d) s) fun a r => ps f (.loop l d a) r
  | f + 1, .loop l d a, s => if opAt s ∈ lv l then andR (ps f (.lev (l + 1) d) (aft s)) fun b r => ps f (.loop l d (.bin (opAt s) a b)) r else some (.ok (a, trim s))
  | f + 1, .sig d, s => if 30 < d then some (.bad 2) else
      if opAt s ∈ sgnOps then andR (ps f (.sig (d + 1)) (aft s)) fun t r => some (.ok (.sgn (opAt s) t, r)) else
      if opAt s = [40] then andR (ps f (.expr (d + 1)) (aft s)) fun t r => if opAt r ≠ [41] then some (.bad 130) else some (.ok (t, aft r)) else
      some (prim (trim s))
theorem lv_mem {o : Txt} {l : Nat} (h : o ∈ lv l) : o ∈ allOps ∧ l < 10 := by
  unfold lv at h
  by_cases hl : l < 10
  · refine ⟨?_, hl⟩
    have : ∀ l, l < 10 → ∀ o ∈ lvOps.getD l [], o ∈ allOps := by decide
    exact this l hl o h
  · rw [List.getD_eq_getElem?_getD, List.getElem?_eq_none (by show 10 ≤ l; omega)] at h
    cases h
theorem lv_ne {o : Txt} {l : Nat} (h : o ∈ lv l) : o ≠ [] := by
  intro e
  subst e
  have : ([] : Txt) ∉ allOps := by decide
  exact this (lv_mem h).1
theorem sgn_ne {o : Txt} (h : o ∈ sgnOps) : o ≠ [] := by
  intro e
  subst e
  revert h
  decide
def rank : Md → Nat
  | .expr _ => 40
  | .cho _ => 39
  | .lev l _ => 37 - 3 * min l 11
  | .loop l _ _ => 36 - 3 * min l 11
  | .sig _ => 1
/-- With fuel enough it comes to an end; and what is left is no longer. -/
theorem ps_total : ∀ (f : Nat) (m : Md) (s : Txt), (∀ l d a, m = .loop l d a → l < 10) → 50 * s.length + rank m < f → ∃ r, ps f m s = some r ∧ ∀ t s', r = .ok (t, s') → s'.length ≤ s.length
  | 0, _, _, _, h => absurd h (Nat.not_lt_zero _)
  | f + 1, .expr d, s, _, h => by
    simp only [rank] at h
    simp only [ps]
    split
    · exact ⟨_, rfl, fun _ _ e => by cases e⟩
    · split
      · rename_i n o r ha
        have hl := asg_len ha
        obtain ⟨q, hq, hql⟩ := ps_total f (.expr (d + 1)) r (fun _ _ _ e => by cases e) (by simp only [rank]; omega)
        rw [hq]
        cases q with
        | bad k => exact ⟨_, rfl, fun _ _ e => by cases e⟩
        | ok p =>
          obtain ⟨t, r'⟩ := p
          refine ⟨_, rfl, fun t' s' e => ?_⟩
          obtain rfl := ok_snd e
          have := hql _ _ rfl
          omega
      · have ht := trim_len s
        obtain ⟨q, hq, hql⟩ := ps_total f (.cho d) (trim s) (fun _ _ _ e => by cases e) (by simp only [rank]; omega)
        exact ⟨q, hq, fun t s' e => Nat.le_trans (hql t s' e) ht⟩
  | f + 1, .cho d, s, _, h => by
    simp only [rank] at h
    simp only [ps]
    obtain ⟨q, hq, hql⟩ := ps_total f (.lev 0 d) s (fun _ _ _ e => by cases e) (by simp only [rank]; omega)
    rw [hq]
    cases q with
    | bad k => exact ⟨_, rfl, fun _ _ e => by cases e⟩
    | ok p =>
      obtain ⟨c, r⟩ := p
      have h1 := hql _ _ rfl
      simp only [andR]
      split
      · refine ⟨_, rfl, fun t' s' e => ?_⟩
        obtain rfl := ok_snd e
        have := trim_len r
        omega
      · rename_i ho
        have ho : opAt r = [63] := Classical.not_not.1 ho
        have h2 := aft_len (s := r) (by rw [ho]; decide)
        obtain ⟨q, hq, hql⟩ := ps_total f (.expr (d + 1)) (aft r) (fun _ _ _ e => by cases e) (by simp only [rank]; omega)
        rw [hq]
        cases q with
        | bad k => exact ⟨_, rfl, fun _ _ e => by cases e⟩
        | ok p =>
          obtain ⟨a, r2⟩ := p
          have h3 := hql _ _ rfl
          dsimp only
          split
          · exact ⟨_, rfl, fun _ _ e => by cases e⟩
          · rename_i ho2
            have ho2 : opAt r2 = [58] := Classical.not_not.1 ho2
            have h4 := aft_len (s := r2) (by rw [ho2]; decide)
            obtain ⟨q, hq, hql⟩ := ps_total f (.cho (d + 1)) (aft r2) (fun _ _ _ e => by cases e) (by simp only [rank]; omega)
            rw [hq]
            cases q with
            | bad k => exact ⟨_, rfl, fun _ _ e => by cases e⟩
            | ok p =>
              obtain ⟨b, r3⟩ := p
              have h5 := hql _ _ rfl
              refine ⟨_, rfl, fun t' s' e => ?_⟩
              obtain rfl := ok_snd e
              omega
  | f + 1, .lev l d, s, _, h => by
    simp only [rank] at h
    simp only [ps]
    split
    · exact ps_total f (.sig d) s (fun _ _ _ e => by cases e) (by simp only [rank]; omega)
    · rename_i hl
      obtain ⟨q, hq, hql⟩ := ps_total f (.lev (l + 1) d) s (fun _ _ _ e => by cases e) (by simp only [rank]; omega)
      rw [hq]
      cases q with
      | bad k => exact ⟨_, rfl, fun _ _ e => by cases e⟩
      | ok p =>
        obtain ⟨a, r⟩ := p
        have h1 := hql _ _ rfl
        obtain ⟨q, hq, hql⟩ := ps_total f (.loop l d a) r (fun l' _ _ e => by injection e with e; omega) (by simp only [rank]; omega)
        exact ⟨q, hq, fun t s' e => Nat.le_trans (hql t s' e) h1⟩
  | f + 1, .loop l d a, s, hl10, h => by
    simp only [rank] at h
    simp only [ps]
    have hl := hl10 l d a rfl
    split
    · rename_i ho
      have h0 := aft_len (lv_ne ho)
      obtain ⟨q, hq, hql⟩ := ps_total f (.lev (l + 1) d) (aft s) (fun _ _ _ e => by cases e) (by simp only [rank]; omega)
      rw [hq]
      cases q with
      | bad k => exact ⟨_, rfl, fun _ _ e => by cases e⟩
      | ok p =>
        obtain ⟨b, r⟩ := p
        have h1 := hql _ _ rfl
        obtain ⟨q, hq, hql⟩ := ps_total f (.loop l d (.bin (opAt s) a b)) r (fun l' _ _ e => by injection e with e; omega) (by simp only [rank]; omega)
        exact ⟨q, hq, fun t s' e => by have := hql t s' e; omega⟩
    · refine ⟨_, rfl, fun t' s' e => ?_⟩
      obtain rfl := ok_snd e
      have := trim_len s
      omega
  | f + 1, .sig d, s, _, h => by
    simp only [rank] at h
    simp only [ps]
    split
    · exact ⟨_, rfl, fun _ _ e => by cases e⟩
    · split
      · rename_i ho
        have h0 := aft_len (sgn_ne ho)
        obtain ⟨q, hq, hql⟩ := ps_total f (.sig (d + 1)) (aft s) (fun _ _ _ e => by cases e) (by simp only [rank]; omega)
        rw [hq]
        cases q with
        | bad k => exact ⟨_, rfl, fun _ _ e => by cases e⟩
        | ok p =>
          obtain ⟨b, r⟩ := p
          have h1 := hql _ _ rfl
          refine ⟨_, rfl, fun t' s' e => ?_⟩
          obtain rfl := ok_snd e
          omega
      · split
        · rename_i ho
          have h0 := aft_len (s := s) (by rw [ho]; decide)
          obtain ⟨q, hq, hql⟩ := ps_total f (.expr (d + 1)) (aft s) (fun _ _ _ e => by cases e) (by simp only [rank]; omega)
          rw [hq]
          cases q with
          | bad k => exact ⟨_, rfl, fun _ _ e => by cases e⟩
          | ok p =>
            obtain ⟨b, r⟩ := p
            have h1 := hql _ _ rfl
            simp only [andR]
            split
            · exact ⟨_, rfl, fun _ _ e => by cases e⟩
            · rename_i ho2
              have ho2 : opAt r = [41] := Classical.not_not.1 ho2
              have h4 := aft_len (s := r) (by rw [ho2]; decide)
              refine ⟨_, rfl, fun t' s' e => ?_⟩
              obtain rfl := ok_snd e
              omega
        · refine ⟨_, rfl, fun t' s' e => ?_⟩
          have ht := trim_len s
          unfold prim at e
          dsimp only at e
          split at e
          · obtain rfl := ok_snd e
            rw [List.length_drop]
            omega
          · split at e
            · obtain rfl := ok_snd e
              rw [List.length_drop]
              omega
            · cases e
end Go.Proofs.YtgincpkggnndeaaGreatDoor
