/- Units of a text: they leave an end of it. Plain law; no program is named. Conditions: none. -/
import Derived.Test.YtckcdbkggaoomaaDoorLxU
namespace Go.Proofs.YtckcdbkggaoomaaDoor
open Go.RowKit Vc

/-- It leaves an end of the text. -/
def Ends (f : Txt → Option Txt) : Prop := ∀ s t, f s = some t → t <:+ s
theorem suf_cons {a : UInt8} {t r : Txt} (h : t <:+ r) : t <:+ a :: r := h.trans (List.suffix_cons a r)
theorem quoteEnd_ends : Ends quoteEnd
  | a :: r, t, h => by
    simp only [quoteEnd] at h
    split at h
    · obtain rfl := Option.some.inj h; exact List.suffix_cons _ _
    · exact suf_cons (quoteEnd_ends r t h)
theorem untilL_ends {u q : Txt → Option Txt} {ok : Bool} {e : UInt8} (hu : Ends u) (hq : Ends q) : ∀ n, Ends (untilL u q ok e n)
  | 0 => fun s t h => by cases h
  | n + 1 => by
    intro s t h
    cases s with
    | nil => cases h
    | cons c r =>
      simp only [untilL] at h
      split at h
      · obtain rfl := Option.some.inj h; exact List.suffix_cons _ _
      · split at h
        · split at h
          · exact suf_cons (untilL_ends hu hq n _ _ h)
          · cases h
        · split at h
          · split at h
            · split at h
              · rename_i t' ht
                exact suf_cons ((untilL_ends hu hq n _ _ h).trans (hq _ _ ht))
              · cases h
            · cases h
          · split at h
            · rename_i t' ht
              exact (untilL_ends hu hq n _ _ h).trans (hu _ _ ht)
            · cases h
theorem unitF_ends {v : UInt8 → Txt → Option Txt} (hv : ∀ e, Ends (v e)) : Ends (unitF v) := by
  intro s t h
  cases s with
  | nil => cases h
  | cons a r =>
    simp only [unitF] at h
    split at h
    · cases r with
      | nil => cases h
      | cons b r => obtain rfl := Option.some.inj h; exact suf_cons (List.suffix_cons _ _)
    · split at h
      · exact suf_cons (quoteEnd_ends _ _ h)
      · split at h
        · exact suf_cons (hv _ _ _ h)
        · cases r with
          | nil => obtain rfl := Option.some.inj h; exact List.suffix_cons _ _
          | cons b r =>
            simp only [dollar] at h
            split at h
            · exact suf_cons (suf_cons (hv _ _ _ h))
            · split at h
              · exact suf_cons (suf_cons (hv _ _ _ h))
              · obtain rfl := Option.some.inj h; exact List.suffix_cons _ _
theorem lev_ends : ∀ d, Ends (lev d).1 ∧ ∀ e, Ends ((lev d).2 e)
  | 0 => ⟨fun s t h => (by cases h), fun e s t h => untilL_ends (fun s t h => by cases h) (fun s t h => by cases h) _ _ _ h⟩
  | d + 1 => by
    have ih := lev_ends d
    have hu : Ends (unitF (lev d).2) := unitF_ends ih.2
    exact ⟨hu, fun e s t h => untilL_ends hu (ih.2 41) _ _ _ h⟩
theorem unitD_ends (d : Nat) : Ends (unitD d) := (lev_ends d).1
theorem untilD_ends (d : Nat) (e : UInt8) : Ends (untilD d e) := (lev_ends d).2 e
/-- A place, told as the reference does. -/
def ix (s : Txt) : Option Txt → Int
  | some t => ((s.length - t.length : Nat) : Int)
  | none => -1
theorem suf_drop {s t : Txt} (h : t <:+ s) : t = s.drop (s.length - t.length) := (List.suffix_iff_eq_drop).1 h
theorem drop_suf (s : Txt) (n : Nat) : s.drop n <:+ s := List.drop_suffix n s
theorem ix_drop {s : Txt} {n : Nat} (h : n ≤ s.length) : ix s (some (s.drop n)) = (n : Int) := by
  show ((s.length - (s.drop n).length : Nat) : Int) = n
  rw [List.length_drop]
  omega
def pf (t q : Txt) : Bool := decide (t.length ≤ q.length ∧ q.take t.length = t)
theorem pf_two (x a : UInt8) (r : Txt) : pf [36, x] (a :: r) = (match r with
    | b :: _ => decide (a = 36 ∧ b = x)
    | [] => false) := by
  unfold pf
  cases r with
  | nil => rfl
  | cons b t =>
    apply decide_eq_decide.2
    simp

end Go.Proofs.YtckcdbkggaoomaaDoor
