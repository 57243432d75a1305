/- Units, words and tokens of a script's text. Plain law; no program is named. Conditions: none. -/
import Derived.Test.YtckcdbkggaoomaaDoorTxt
namespace Go.Proofs.YtckcdbkggaoomaaDoor
open Go.RowKit Vc

/-- Behind the first quote. -/
def quoteEnd : Txt → Option Txt
  | [] => none
  | a :: r => if a = 39 then some r else quoteEnd r
/-- What is left behind a unit: u, q tell it of the units and parts within. -/
def untilL (u : Txt → Option Txt) (q : Txt → Option Txt) (ok : Bool) (e : UInt8) : Nat → Txt → Option Txt
  | 0, _ => none
  | _ + 1, [] => none
  | n + 1, c :: r =>
    if c = e then some r
    else if e = 34 ∧ c = 39 then (if ok = true then untilL u q ok e n r else none)
    else if e = 41 ∧ c = 40 then (if ok = true then (match q r with
      | some t => untilL u q ok e n t
      | none => none) else none)
    else match u (c :: r) with
      | some t => untilL u q ok e n t
      | none => none
def dollar (v : UInt8 → Txt → Option Txt) (a : UInt8) : Txt → Option Txt
  | b :: t => if a = 36 ∧ b = 40 then v 41 t else if a = 36 ∧ b = 123 then v 125 t else some (b :: t)
  | [] => some []
def unitF (v : UInt8 → Txt → Option Txt) : Txt → Option Txt
  | [] => none
  | a :: r =>
    if a = 92 then (match r with
      | [] => none
      | _ :: t => some t)
    else if a = 39 then quoteEnd r
    else if a = 34 then v 34 r
    else dollar v a r
/-- Units and what ends, with so many levels left. -/
def lev : Nat → (Txt → Option Txt) × (UInt8 → Txt → Option Txt)
  | 0 => (fun _ => none, fun e s => untilL (fun _ => none) (fun _ => none) false e (s.length + 1) s)
  | d + 1 => (unitF (lev d).2, fun e s => untilL (unitF (lev d).2) ((lev d).2 41) true e (s.length + 1) s)
def unitD (d : Nat) : Txt → Option Txt := (lev d).1
def untilD (d : Nat) (e : UInt8) : Txt → Option Txt := (lev d).2 e

theorem quoteEnd_length : ∀ {s t : Txt}, quoteEnd s = some t → t.length < s.length
  | a :: r, t, h => by
    simp only [quoteEnd] at h
    split at h
    · obtain rfl := Option.some.inj h; simp
    · have := quoteEnd_length h; simp; omega
/-- It takes something. -/
def Takes (f : Txt → Option Txt) : Prop := ∀ s t, f s = some t → t.length < s.length
theorem untilL_takes {u q : Txt → Option Txt} {ok : Bool} {e : UInt8} (hu : Takes u) (hq : Takes q) : ∀ n, Takes (untilL u q ok e n)
  | 0 => fun s t h => by cases h
  | n + 1 => by
    intro s t h
    cases s with
    | nil => cases h
    | cons c r =>
      simp only [untilL] at h
      split at h
      · obtain rfl := Option.some.inj h; simp
      · split at h
        · split at h
          · have := untilL_takes hu hq n _ _ h; simp; omega
          · cases h
        · split at h
          · split at h
            · split at h
              · rename_i t' ht
                have h1 := hq _ _ ht
                have h2 := untilL_takes hu hq n _ _ h
                simp; omega
              · cases h
            · cases h
          · split at h
            · rename_i t' ht
              have h1 := hu _ _ ht
              have h2 := untilL_takes hu hq n _ _ h
              omega
            · cases h
theorem unitF_takes {v : UInt8 → Txt → Option Txt} (hv : ∀ e, Takes (v e)) : Takes (unitF v) := by
  intro s t h
  cases s with
  | nil => cases h
  | cons a r =>
    simp only [unitF] at h
    split at h
    · cases r with
      | nil => cases h
      | cons b r => obtain rfl := Option.some.inj h; simp; omega
    · split at h
      · have := quoteEnd_length h; simp; omega
      · split at h
        · have := hv _ _ _ h; simp; omega
        · cases r with
          | nil => obtain rfl := Option.some.inj h; simp
          | cons b r =>
            simp only [dollar] at h
            split at h
            · have := hv _ _ _ h; simp; omega
            · split at h
              · have := hv _ _ _ h; simp; omega
              · obtain rfl := Option.some.inj h; simp
theorem lev_takes : ∀ d, Takes (lev d).1 ∧ ∀ e, Takes ((lev d).2 e)
  | 0 => by
    refine ⟨fun s t h => (by cases h), fun e s t h => ?_⟩
    exact untilL_takes (fun s t h => by cases h) (fun s t h => by cases h) _ _ _ h
  | d + 1 => by
    have ih := lev_takes d
    have hu : Takes (unitF (lev d).2) := unitF_takes ih.2
    exact ⟨hu, fun e s t h => untilL_takes hu (ih.2 41) _ _ _ h⟩
theorem untilL_more {u q : Txt → Option Txt} {ok : Bool} {e : UInt8} (hu : Takes u) (hq : Takes q) : ∀ (n m : Nat) (s : Txt), s.length < n → s.length < m → untilL u q ok e n s = untilL u q ok e m s
  | 0, _, _, h, _ => by omega
  | _, 0, _, _, h => by omega
  | n + 1, m + 1, [], _, _ => rfl
  | n + 1, m + 1, c :: r, hn, hm => by
    simp only [List.length_cons] at hn hm
    simp only [untilL]
    rw [untilL_more hu hq n m r (by omega) (by omega)]
    have e1 : (match q r with | some t => untilL u q ok e n t | none => none) = (match q r with | some t => untilL u q ok e m t | none => none) := by
      cases hqr : q r with
      | none => rfl
      | some t =>
        have := hq _ _ hqr
        exact untilL_more hu hq n m t (by omega) (by omega)
    have e2 : (match u (c :: r) with | some t => untilL u q ok e n t | none => none) = (match u (c :: r) with | some t => untilL u q ok e m t | none => none) := by
      cases hur : u (c :: r) with
      | none => rfl
      | some t =>
        have := hu _ _ hur
        simp only [List.length_cons] at this
        exact untilL_more hu hq n m t (by omega) (by omega)
    rw [e1, e2]
theorem unitD_takes (d : Nat) : Takes (unitD d) := (lev_takes d).1
theorem untilD_takes (d : Nat) (e : UInt8) : Takes (untilD d e) := (lev_takes d).2 e
theorem unitD_zero (s : Txt) : unitD 0 s = none := rfl
theorem unitD_succ (d : Nat) : unitD (d + 1) = unitF (untilD d) := rfl
theorem untilD_nil (d : Nat) (e : UInt8) : untilD d e [] = none := by cases d <;> rfl
/-- One byte of what ends. -/
theorem untilD_cons (d : Nat) (e c : UInt8) (r : Txt) : untilD d e (c :: r) =
    if c = e then some r
    else if e = 34 ∧ c = 39 then (if d = 0 then none else untilD d e r)
    else if e = 41 ∧ c = 40 then (if d = 0 then none else (untilD (d - 1) 41 r).bind (untilD d e))
    else (unitD d (c :: r)).bind (untilD d e) := by
  cases d with
  | zero =>
    show untilL (fun _ => none) (fun _ => none) false e (r.length + 1 + 1) (c :: r) = _
    simp only [untilL, Bool.false_eq_true, if_false, if_true, unitD_zero, Option.bind_none]
  | succ d =>
    have hu := unitF_takes (lev_takes d).2
    have hq := (lev_takes d).2 41
    show untilL (unitF (lev d).2) ((lev d).2 41) true e (r.length + 1 + 1) (c :: r) = _
    have next : ∀ t : Txt, t.length < r.length + 1 → untilL (unitF (lev d).2) ((lev d).2 41) true e (r.length + 1) t = untilD (d + 1) e t := fun t ht => untilL_more hu hq _ _ _ ht (Nat.lt_succ_self _)
    simp only [untilL, if_true, Nat.succ_ne_zero, if_false, Nat.add_sub_cancel]
    rw [next r (Nat.lt_succ_self _)]
    have e1 : (match (lev d).2 41 r with | some t => untilL (unitF (lev d).2) ((lev d).2 41) true e (r.length + 1) t | none => none) = (untilD d 41 r).bind (untilD (d + 1) e) := by
      show (match untilD d 41 r with | some t => untilL (unitF (lev d).2) ((lev d).2 41) true e (r.length + 1) t | none => none) = _
      cases hqr : untilD d 41 r with
      | none => rfl
      | some t =>
        have := untilD_takes d 41 _ _ hqr
        exact next t (by omega)
    have e2 : (match unitF (lev d).2 (c :: r) with | some t => untilL (unitF (lev d).2) ((lev d).2 41) true e (r.length + 1) t | none => none) = (unitD (d + 1) (c :: r)).bind (untilD (d + 1) e) := by
      show (match unitD (d + 1) (c :: r) with | some t => untilL (unitF (lev d).2) ((lev d).2 41) true e (r.length + 1) t | none => none) = _
      cases hur : unitD (d + 1) (c :: r) with
      | none => rfl
      | some t =>
        have := unitD_takes (d + 1) _ _ hur
        simp only [List.length_cons] at this
        exact next t (by omega)
    rw [e1, e2]
end Go.Proofs.YtckcdbkggaoomaaDoor
