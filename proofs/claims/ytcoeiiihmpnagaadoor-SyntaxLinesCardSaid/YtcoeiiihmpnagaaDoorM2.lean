/- Texts of one proof, one behind the other. Conditions: as each theorem names them. -/
import Derived.Test.YtcoeiiihmpnagaaDoorM1
namespace Go.Proofs.YtcoeiiihmpnagaaDoor
open Go.RowKit Vc

/-- Behind the first quote. -/
def quoteEnd : Txt → Option Txt
  | [] => none
  | a :: r => if a = 39 then some r else quoteEnd r
/-- What is left behind a unit: u, q tell it of the units and parts within. -/
def untilL (u : Txt → Option Txt) (q : Txt → Option Txt) (ok : Bool) (e : UInt8) : Nat → Txt → Option Txt
  | 0, _ => none
  | _ + 1, [] => none
  | n + 1, c :: r =>
    if c = e then some r
    else if e = 34 ∧ c = 39 then (if ok = true then untilL u q ok e n r else none)
    else if e = 41 ∧ c = 40 then (if ok = true then (match q r with
      | some t => untilL u q ok e n t
      | none => none) else none)
    else match u (c :: r) with
      | some t => untilL u q ok e n t
      | none => none
def dollar (v : UInt8 → Txt → Option Txt) (a : UInt8) : Txt → Option Txt
  | b :: t => if a = 36 ∧ b = 40 then v 41 t else if a = 36 ∧ b = 123 then v 125 t else some (b :: t)
  | [] => some []
def unitF (v : UInt8 → Txt → Option Txt) : Txt → Option Txt
  | [] => none
  | a :: r =>
    if a = 92 then (match r with
      | [] => none
      | _ :: t => some t)
    else if a = 39 then quoteEnd r
    else if a = 34 then v 34 r
    else dollar v a r
/-- Units and what ends, with so many levels left. -/
def lev : Nat → (Txt → Option Txt) × (UInt8 → Txt → Option Txt)
  | 0 => (fun _ => none, fun e s => untilL (fun _ => none) (fun _ => none) false e (s.length + 1) s)
  | d + 1 => (unitF (lev d).2, fun e s => untilL (unitF (lev d).2) ((lev d).2 41) true e (s.length + 1) s)
def unitD (d : Nat) : Txt → Option Txt := (lev d).1
def untilD (d : Nat) (e : UInt8) : Txt → Option Txt := (lev d).2 e

theorem quoteEnd_length : ∀ {s t : Txt}, quoteEnd s = some t → t.length < s.length
  | a :: r, t, h => by
    simp only [quoteEnd] at h
    split at h
    · obtain rfl := Option.some.inj h; simp
    · have := quoteEnd_length h; simp; omega
/-- It takes something. -/
def Takes (f : Txt → Option Txt) : Prop := ∀ s t, f s = some t → t.length < s.length
theorem untilL_takes {u q : Txt → Option Txt} {ok : Bool} {e : UInt8} (hu : Takes u) (hq : Takes q) : ∀ n, Takes (untilL u q ok e n)
  | 0 => fun s t h => by cases h
  | n + 1 => by
    intro s t h
    cases s with
    | nil => cases h
    | cons c r =>
      simp only [untilL] at h
      split at h
      · obtain rfl := Option.some.inj h; simp
      · split at h
        · split at h
          · have := untilL_takes hu hq n _ _ h; simp; omega
          · cases h
        · split at h
          · split at h
            · split at h
              · rename_i t' ht
                have h1 := hq _ _ ht
                have h2 := untilL_takes hu hq n _ _ h
                simp; omega
              · cases h
            · cases h
          · split at h
            · rename_i t' ht
              have h1 := hu _ _ ht
              have h2 := untilL_takes hu hq n _ _ h
              omega
            · cases h
theorem unitF_takes {v : UInt8 → Txt → Option Txt} (hv : ∀ e, Takes (v e)) : Takes (unitF v) := by
  intro s t h
  cases s with
  | nil => cases h
  | cons a r =>
    simp only [unitF] at h
    split at h
    · cases r with
      | nil => cases h
      | cons b r => obtain rfl := Option.some.inj h; simp; omega
    · split at h
      · have := quoteEnd_length h; simp; omega
      · split at h
        · have := hv _ _ _ h; simp; omega
        · cases r with
          | nil => obtain rfl := Option.some.inj h; simp
          | cons b r =>
            simp only [dollar] at h
            split at h
            · have := hv _ _ _ h; simp; omega
            · split at h
              · have := hv _ _ _ h; simp; omega
              · obtain rfl := Option.some.inj h; simp
theorem lev_takes : ∀ d, Takes (lev d).1 ∧ ∀ e, Takes ((lev d).2 e)
  | 0 => by
    refine ⟨fun s t h => (by cases h), fun e s t h => ?_⟩
    exact untilL_takes (fun s t h => by cases h) (fun s t h => by cases h) _ _ _ h
  | d + 1 => by
    have ih := lev_takes d
    have hu : Takes (unitF (lev d).2) := unitF_takes ih.2
    exact ⟨hu, fun e s t h => untilL_takes hu (ih.2 41) _ _ _ h⟩
theorem untilL_more {u q : Txt → Option Txt} {ok : Bool} {e : UInt8} (hu : Takes u) (hq : Takes q) : ∀ (n m : Nat) (s : Txt), s.length < n → s.length < m → untilL u q ok e n s = untilL u q ok e m s
  | 0, _, _, h, _ => by omega
  | _, 0, _, _, h => by omega
  | n + 1, m + 1, [], _, _ => rfl
  | n + 1, m + 1, c :: r, hn, hm => by
    simp only [List.length_cons] at hn hm
    simp only [untilL]
    rw [untilL_more hu hq n m r (by omega) (by omega)]
    have e1 : (match q r with | some t => untilL u q ok e n t | none => none) = (match q r with | some t => untilL u q ok e m t | none => none) := by
      cases hqr : q r with
      | none => rfl
      | some t =>
        have := hq _ _ hqr
        exact untilL_more hu hq n m t (by omega) (by omega)
    have e2 : (match u (c :: r) with | some t => untilL u q ok e n t | none => none) = (match u (c :: r) with | some t => untilL u q ok e m t | none => none) := by
      cases hur : u (c :: r) with
      | none => rfl
      | some t =>
        have := hu _ _ hur
        simp only [List.length_cons] at this
        exact untilL_more hu hq n m t (by omega) (by omega)
    rw [e1, e2]
theorem unitD_takes (d : Nat) : Takes (unitD d) := (lev_takes d).1
theorem untilD_takes (d : Nat) (e : UInt8) : Takes (untilD d e) := (lev_takes d).2 e
theorem unitD_zero (s : Txt) : unitD 0 s = none := rfl
theorem unitD_succ (d : Nat) : unitD (d + 1) = unitF (untilD d) := rfl
theorem untilD_nil (d : Nat) (e : UInt8) : untilD d e [] = none := by cases d <;> rfl
/-- One byte of what ends. -/
theorem untilD_cons (d : Nat) (e c : UInt8) (r : Txt) : untilD d e (c :: r) =
    if c = e then some r
    else if e = 34 ∧ c = 39 then (if d = 0 then none else untilD d e r)
    else if e = 41 ∧ c = 40 then (if d = 0 then none else (untilD (d - 1) 41 r).bind (untilD d e))
    else (unitD d (c :: r)).bind (untilD d e) := by
  cases d with
  | zero =>
    show untilL (fun _ => none) (fun _ => none) false e (r.length + 1 + 1) (c :: r) = _
    simp only [untilL, Bool.false_eq_true, if_false, if_true, unitD_zero, Option.bind_none]
  | succ d =>
    have hu := unitF_takes (lev_takes d).2
    have hq := (lev_takes d).2 41
    show untilL (unitF (lev d).2) ((lev d).2 41) true e (r.length + 1 + 1) (c :: r) = _
    have next : ∀ t : Txt, t.length < r.length + 1 → untilL (unitF (lev d).2) ((lev d).2 41) true e (r.length + 1) t = untilD (d + 1) e t := fun t ht => untilL_more hu hq _ _ _ ht (Nat.lt_succ_self _)
    simp only [untilL, if_true, Nat.succ_ne_zero, if_false, Nat.add_sub_cancel]
    rw [next r (Nat.lt_succ_self _)]
    have e1 : (match (lev d).2 41 r with | some t => untilL (unitF (lev d).2) ((lev d).2 41) true e (r.length + 1) t | none => none) = (untilD d 41 r).bind (untilD (d + 1) e) := by
      show (match untilD d 41 r with | some t => untilL (unitF (lev d).2) ((lev d).2 41) true e (r.length + 1) t | none => none) = _
      cases hqr : untilD d 41 r with
      | none => rfl
      | some t =>
        have := untilD_takes d 41 _ _ hqr
        exact next t (by omega)
    have e2 : (match unitF (lev d).2 (c :: r) with | some t => untilL (unitF (lev d).2) ((lev d).2 41) true e (r.length + 1) t | none => none) = (unitD (d + 1) (c :: r)).bind (untilD (d + 1) e) := by
      show (match unitD (d + 1) (c :: r) with | some t => untilL (unitF (lev d).2) ((lev d).2 41) true e (r.length + 1) t | none => none) = _
      cases hur : unitD (d + 1) (c :: r) with
      | none => rfl
      | some t =>
        have := unitD_takes (d + 1) _ _ hur
        simp only [List.length_cons] at this
        exact next t (by omega)
    rw [e1, e2]
end Go.Proofs.YtcoeiiihmpnagaaDoor
namespace Go.Proofs.YtcoeiiihmpnagaaDoor
open Go.RowKit Vc

/-- It leaves an end of the text. -/
def Ends (f : Txt → Option Txt) : Prop := ∀ s t, f s = some t → t <:+ s
theorem suf_cons {a : UInt8} {t r : Txt} (h : t <:+ r) : t <:+ a :: r := h.trans (List.suffix_cons a r)
theorem quoteEnd_ends : Ends quoteEnd
  | a :: r, t, h => by
    simp only [quoteEnd] at h
    split at h
    · obtain rfl := Option.some.inj h; exact List.suffix_cons _ _
    · exact suf_cons (quoteEnd_ends r t h)
theorem untilL_ends {u q : Txt → Option Txt} {ok : Bool} {e : UInt8} (hu : Ends u) (hq : Ends q) : ∀ n, Ends (untilL u q ok e n)
  | 0 => fun s t h => by cases h
  | n + 1 => by
    intro s t h
    cases s with
    | nil => cases h
    | cons c r =>
      simp only [untilL] at h
      split at h
      · obtain rfl := Option.some.inj h; exact List.suffix_cons _ _
      · split at h
        · split at h
          · exact suf_cons (untilL_ends hu hq n _ _ h)
          · cases h
        · split at h
          · split at h
            · split at h
              · rename_i t' ht
                exact suf_cons ((untilL_ends hu hq n _ _ h).trans (hq _ _ ht))
              · cases h
            · cases h
          · split at h
            · rename_i t' ht
              exact (untilL_ends hu hq n _ _ h).trans (hu _ _ ht)
            · cases h
theorem unitF_ends {v : UInt8 → Txt → Option Txt} (hv : ∀ e, Ends (v e)) : Ends (unitF v) := by
  intro s t h
  cases s with
  | nil => cases h
  | cons a r =>
    simp only [unitF] at h
    split at h
    · cases r with
      | nil => cases h
      | cons b r => obtain rfl := Option.some.inj h; exact suf_cons (List.suffix_cons _ _)
    · split at h
      · exact suf_cons (quoteEnd_ends _ _ h)
      · split at h
        · exact suf_cons (hv _ _ _ h)
        · cases r with
          | nil => obtain rfl := Option.some.inj h; exact List.suffix_cons _ _
          | cons b r =>
            simp only [dollar] at h
            split at h
            · exact suf_cons (suf_cons (hv _ _ _ h))
            · split at h
              · exact suf_cons (suf_cons (hv _ _ _ h))
              · obtain rfl := Option.some.inj h; exact List.suffix_cons _ _
theorem lev_ends : ∀ d, Ends (lev d).1 ∧ ∀ e, Ends ((lev d).2 e)
  | 0 => ⟨fun s t h => (by cases h), fun e s t h => untilL_ends (fun s t h => by cases h) (fun s t h => by cases h) _ _ _ h⟩
  | d + 1 => by
    have ih := lev_ends d
    have hu : Ends (unitF (lev d).2) := unitF_ends ih.2
    exact ⟨hu, fun e s t h => untilL_ends hu (ih.2 41) _ _ _ h⟩
theorem unitD_ends (d : Nat) : Ends (unitD d) := (lev_ends d).1
theorem untilD_ends (d : Nat) (e : UInt8) : Ends (untilD d e) := (lev_ends d).2 e
/-- A place, told as the reference does. -/
def ix (s : Txt) : Option Txt → Int
  | some t => ((s.length - t.length : Nat) : Int)
  | none => -1
theorem suf_drop {s t : Txt} (h : t <:+ s) : t = s.drop (s.length - t.length) := (List.suffix_iff_eq_drop).1 h
theorem drop_suf (s : Txt) (n : Nat) : s.drop n <:+ s := List.drop_suffix n s
theorem ix_drop {s : Txt} {n : Nat} (h : n ≤ s.length) : ix s (some (s.drop n)) = (n : Int) := by
  show ((s.length - (s.drop n).length : Nat) : Int) = n
  rw [List.length_drop]
  omega
def pf (t q : Txt) : Bool := decide (t.length ≤ q.length ∧ q.take t.length = t)
theorem pf_two (x a : UInt8) (r : Txt) : pf [36, x] (a :: r) = (match r with
    | b :: _ => decide (a = 36 ∧ b = x)
    | [] => false) := by
  unfold pf
  cases r with
  | nil => rfl
  | cons b t =>
    apply decide_eq_decide.2
    simp

end Go.Proofs.YtcoeiiihmpnagaaDoor
namespace Go.Proofs.YtcoeiiihmpnagaaDoor

/-- A part: its kind, whether it is quoted, its text, name, operator and word. -/
inductive Pt where
  | mk (k : Int) (q : Bool) (t n o : Txt) (w : List Pt)
namespace Pt
def k : Pt → Int
  | .mk k _ _ _ _ _ => k
def q : Pt → Bool
  | .mk _ q _ _ _ _ => q
def t : Pt → Txt
  | .mk _ _ t _ _ _ => t
def n : Pt → Txt
  | .mk _ _ _ n _ _ => n
def o : Pt → Txt
  | .mk _ _ _ _ o _ => o
def w : Pt → List Pt
  | .mk _ _ _ _ _ w => w
end Pt
theorem Pt.eta (p : Pt) : Pt.mk p.k p.q p.t p.n p.o p.w = p := by cases p; rfl
/-- What is read, or the error's number. -/
inductive Rs (α : Type) where
  | ok (a : α) : Rs α
  | bad (e : Nat) : Rs α
def Rs.and {α β : Type} (r : Rs α) (f : α → Rs β) : Rs β := match r with
  | .ok a => f a
  | .bad e => .bad e
theorem Rs.and_ok {α β : Type} {r : Rs α} {f : α → Rs β} {b : β} (h : r.and f = .ok b) : ∃ a, r = .ok a ∧ f a = .ok b := by
  cases r with
  | bad k => cases h
  | ok a => exact ⟨a, rfl, h⟩

def isLet (c : UInt8) : Bool := (decide (97 ≤ c) && decide (c ≤ 122)) || (decide (65 ≤ c) && decide (c ≤ 90)) || c == 95
def isDig (c : UInt8) : Bool := decide (48 ≤ c) && decide (c ≤ 57)
def isNam (c : UInt8) : Bool := isLet c || isDig c
def isSpec (c : UInt8) : Bool := isDig c || c == 35 || c == 63 || c == 64 || c == 42
/-- How long the variable's name at a text's head is. -/
def nameN : Txt → Nat
  | [] => 0
  | c :: r => if isLet c = true then (r.takeWhile isNam).length + 1 else 0
def specN : Txt → Nat
  | [] => 0
  | c :: _ => if isSpec c = true then 1 else 0
def digN (s : Txt) : Nat := (s.takeWhile isDig).length
/-- How long the parameter's name at a text's head is. -/
def paramN (s : Txt) : Nat := if 0 < nameN s then nameN s else if 0 < digN s then digN s else specN s

def addP (l : List Pt) (p : Pt) : List Pt := match l.getLast? with
  | some x => if p.k = 0 ∧ x.k = 0 ∧ x.q = p.q then l.dropLast ++ [.mk x.k x.q (x.t ++ p.t) x.n x.o x.w] else l ++ [p]
  | none => l ++ [p]
mutual
def Pt.qd : Pt → Pt
  | .mk k _ t n o w => .mk k true t n o (qdL [] w)
def qdL (acc : List Pt) : List Pt → List Pt
  | [] => acc
  | p :: r => qdL (addP acc p.qd) r
end
mutual
def Pt.has : Pt → Bool
  | .mk k _ _ _ _ w => decide (k = 2) || hasL w
def hasL : List Pt → Bool
  | [] => false
  | p :: r => p.has || hasL r
end
def opsL : List Txt := [[58, 45], [58, 61], [58, 63], [58, 43], [37, 37], [35, 35], [45], [61], [63], [43], [37], [35]]
def opOf (s : Txt) : Txt := (opsL.find? fun o => pf o s).getD []
abbrev lenO : Txt := [108, 101, 110]
/-- A parameter in braces; P reads words one level deeper. -/
def bracesF (P : Txt → Rs (List Pt)) (q : Bool) (s : Txt) : Rs Pt :=
  if 1 < s.length ∧ s.head? = some 35 ∧ paramN (s.drop 1) = s.length - 1 then .ok (.mk 1 q [] (s.drop 1) lenO [])
  else if paramN s = 0 then .bad 90
  else if s.drop (paramN s) = [] then .ok (.mk 1 q [] (s.take (paramN s)) [] [])
  else if opOf (s.drop (paramN s)) = [] ∨ ((opOf (s.drop (paramN s)) = [61] ∨ opOf (s.drop (paramN s)) = [58, 61]) ∧ nameN (s.take (paramN s)) = 0) then .bad 90
  else (P ((s.drop (paramN s)).drop (opOf (s.drop (paramN s))).length)).and fun w =>
    if hasL w = true then .bad 90 else .ok (.mk 1 q [] (s.take (paramN s)) (opOf (s.drop (paramN s))) (if q = true then qdL [] w else w))
/-- What a dollar at a text's head begins, and how long it is. -/
def dollarF (P : Txt → Rs (List Pt)) (q : Bool) (s : Txt) : Rs (Pt × Nat) :=
  if (s.drop 1).head? = some 40 ∨ (s.drop 1).head? = some 123 then match unitD 30 s with
    | none => .bad 90
    | some t =>
      if (s.drop 1).head? = some 123 then (bracesF P q ((s.drop 2).take (s.length - t.length - 3))).and fun p => .ok (p, s.length - t.length)
      else if 4 < s.length - t.length ∧ s[2]? = some 40 ∧ s[s.length - t.length - 2]? = some 41 then .ok (.mk 3 q ((s.drop 3).take (s.length - t.length - 5)) [] [] [], s.length - t.length)
      else .ok (.mk 2 q ((s.drop 2).take (s.length - t.length - 3)) [] [] [], s.length - t.length)
  else if 0 < nameN (s.drop 1) then .ok (.mk 1 q [] ((s.drop 1).take (nameN (s.drop 1))) [] [], nameN (s.drop 1) + 1)
  else if 0 < specN (s.drop 1) then .ok (.mk 1 q [] ((s.drop 1).take 1) [] [], 2)
  else .ok (.mk 0 q [36] [] [] [], 1)
def tx (q : Bool) (t : Txt) : Pt := .mk 0 q t [] [] []
/-- What is at a text's head within quotes. -/
def dblOne (P : Txt → Rs (List Pt)) (s : Txt) : Rs (List Pt × Nat) := match s with
  | [] => .bad 0
  | c :: r =>
    if c = 36 then (dollarF P true (c :: r)).and fun x => .ok ([x.1], x.2)
    else if c = 92 ∧ (r.head? = some 36 ∨ r.head? = some 96 ∨ r.head? = some 34 ∨ r.head? = some 92) then .ok ([tx true (r.take 1)], 2)
    else .ok ([tx true [c]], 1)
def loopF (one : Txt → Rs (List Pt × Nat)) : Nat → List Pt → Txt → Rs (List Pt)
  | 0, _, _ => .bad 0
  | _ + 1, acc, [] => .ok acc
  | n + 1, acc, c :: r => (one (c :: r)).and fun x => loopF one n (x.1.foldl addP acc) ((c :: r).drop x.2)
def dblF (P : Txt → Rs (List Pt)) (s : Txt) : Rs (List Pt) := if s = [] then .ok [tx true []] else loopF (dblOne P) (s.length + 1) [] s
/-- What is at a text's head outside quotes. -/
def outOne (P : Txt → Rs (List Pt)) (s : Txt) : Rs (List Pt × Nat) := match s with
  | [] => .bad 0
  | c :: r =>
    if c = 36 then (dollarF P false (c :: r)).and fun x => .ok ([x.1], x.2)
    else if c = 92 ∨ c = 39 ∨ c = 34 then match unitD 30 (c :: r) with
      | none => .bad 90
      | some t =>
        if c = 92 then .ok ([tx true (r.take 1)], 2)
        else if c = 34 then (dblF P (r.take (r.length - t.length - 1))).and fun l => .ok (l, r.length + 1 - t.length)
        else .ok ([tx true (r.take (r.length - t.length - 1))], r.length + 1 - t.length)
    else .ok ([tx false [c]], 1)
/-- The parts of a text, with so many levels left. -/
def wpL : Nat → Txt → Rs (List Pt)
  | 0, _ => .bad 2
  | L + 1, s => loopF (outOne (wpL L)) (s.length + 1) [] s
def single (s : Txt) : Txt := 39 :: (s.flatMap fun b => if b = 39 then [39, 92, 39, 39] else [b]) ++ [39]
def wrapQ (q : Bool) (s : Txt) : Txt := if q = true then 34 :: s ++ [34] else s
mutual
def Pt.pr : Pt → Txt
  | .mk k q t n o w =>
    if k = 0 then (if q = true then single t else t)
    else wrapQ q (if k = 2 then [36, 40] ++ t ++ [41] else if k = 3 then [36, 40, 40] ++ t ++ [41, 41] else if k = 1 then (if o = lenO then [36, 123, 35] ++ n ++ [125] else [36, 123] ++ n ++ o ++ prL w ++ [125]) else [])
def prL : List Pt → Txt
  | [] => []
  | p :: r => p.pr ++ prL r
end
theorem prL_append : ∀ a b : List Pt, prL (a ++ b) = prL a ++ prL b
  | [], _ => rfl
  | p :: a, b => by simp only [List.cons_append, prL, prL_append a b, List.append_assoc]

/-! ### How long -/
theorem nameN_le : ∀ s : Txt, nameN s ≤ s.length
  | [] => Nat.le_refl _
  | c :: r => by
    have : (r.takeWhile isNam).length ≤ r.length := (List.takeWhile_sublist _).length_le
    simp only [nameN]
    split
    · simp only [List.length_cons]; omega
    · exact Nat.zero_le _
theorem specN_le : ∀ s : Txt, specN s ≤ s.length
  | [] => Nat.le_refl _
  | c :: r => by
    simp only [specN, List.length_cons]
    split <;> omega
theorem specN_one (s : Txt) : specN s ≤ 1 := by
  cases s with
  | nil => exact Nat.zero_le _
  | cons c r => simp only [specN]; split <;> omega
theorem digN_le (s : Txt) : digN s ≤ s.length := (List.takeWhile_sublist _).length_le
theorem paramN_le (s : Txt) : paramN s ≤ s.length := by
  unfold paramN
  split
  · exact nameN_le s
  · split
    · exact digN_le s
    · exact specN_le s
theorem opOf_in (s : Txt) : opOf s = [] ∨ (opOf s ∈ opsL ∧ pf (opOf s) s = true) := by
  unfold opOf
  cases h : opsL.find? fun o => pf o s with
  | none => exact .inl rfl
  | some o => exact .inr ⟨List.mem_of_find?_eq_some h, by simpa using List.find?_some h⟩
theorem opOf_len (s : Txt) : (opOf s).length ≤ s.length ∧ (opOf s).length ≤ 2 := by
  rcases opOf_in s with h | ⟨h, h2⟩
  · rw [h]; exact ⟨Nat.zero_le _, by decide⟩
  · refine ⟨?_, ?_⟩
    · unfold pf at h2
      exact (of_decide_eq_true h2).1
    · have : ∀ o ∈ opsL, o.length ≤ 2 := by decide
      exact this _ h
theorem addP_len (l : List Pt) (p : Pt) : (addP l p).length ≤ l.length + 1 := by
  unfold addP
  split
  · rename_i x hx
    have hne : l ≠ [] := by rintro rfl; cases hx
    have := List.length_pos_iff.2 hne
    split
    · simp only [List.length_append, List.length_dropLast, List.length_cons, List.length_nil]; omega
    · simp
  · simp
theorem fold_len : ∀ (ps acc : List Pt), (ps.foldl addP acc).length ≤ acc.length + ps.length
  | [], acc => Nat.le_refl _
  | p :: ps, acc => by
    have h1 := fold_len ps (addP acc p)
    have h2 := addP_len acc p
    simp only [List.foldl_cons, List.length_cons]
    omega
theorem qdL_len : ∀ (l acc : List Pt), (qdL acc l).length ≤ acc.length + l.length
  | [], acc => by simp [qdL]
  | p :: l, acc => by
    have h1 := qdL_len l (addP acc p.qd)
    have h2 := addP_len acc p.qd
    simp only [qdL, List.length_cons]
    omega
/-- It takes something, and no more than there is; and there are no more parts than bytes. -/
def Takes1 (one : Txt → Rs (List Pt × Nat)) : Prop := ∀ s x, one s = .ok x → 0 < x.2 ∧ x.2 ≤ s.length ∧ x.1.length ≤ x.2
theorem dollarF_takes {P : Txt → Rs (List Pt)} {q : Bool} {r : Txt} {x : Pt × Nat} (h : dollarF P q (36 :: r) = .ok x) : 0 < x.2 ∧ x.2 ≤ r.length + 1 := by
  unfold dollarF at h
  simp only [List.drop_succ_cons, List.drop_zero] at h
  split at h
  · split at h
    · cases h
    · rename_i t ht
      have h1 := unitD_takes 30 _ _ ht
      simp only [List.length_cons] at h1 h
      split at h
      · obtain ⟨p, _, h⟩ := Rs.and_ok h
        injection h with h
        rw [← h]
        dsimp only
        omega
      · split at h <;> (injection h with h; rw [← h]; dsimp only; omega)
  · split at h
    · injection h with h
      have := nameN_le r
      rw [← h]
      dsimp only
      omega
    · split at h
      · rename_i hs
        injection h with h
        have := specN_le r
        rw [← h]
        dsimp only
        omega
      · injection h with h
        rw [← h]
        dsimp only
        omega
theorem dblOne_takes (P : Txt → Rs (List Pt)) : Takes1 (dblOne P) := by
  intro s x h
  cases s with
  | nil => cases h
  | cons c r =>
    simp only [dblOne] at h
    split at h
    · rename_i hc
      subst hc
      obtain ⟨y, h1, h⟩ := Rs.and_ok h
      injection h with h
      have := dollarF_takes h1
      rw [← h]
      exact ⟨this.1, this.2, this.1⟩
    · split at h
      · rename_i hc
        injection h with h
        rw [← h]
        have : r ≠ [] := by
          rintro rfl
          rcases hc.2 with h | h | h | h <;> cases h
        have := List.length_pos_iff.2 this
        simp only [List.length_cons, List.length_nil]
        omega
      · injection h with h
        rw [← h]
        simp only [List.length_cons, List.length_nil]
        omega
theorem loopF_len {one : Txt → Rs (List Pt × Nat)} (ho : Takes1 one) : ∀ (n : Nat) (acc : List Pt) (s : Txt) (l : List Pt), loopF one n acc s = .ok l → l.length ≤ acc.length + s.length
  | 0, _, _, _, h => by cases h
  | n + 1, acc, [], l, h => by
    injection h with h
    rw [h]
    exact Nat.le_add_right _ _
  | n + 1, acc, c :: r, l, h => by
    simp only [loopF] at h
    obtain ⟨x, h1, h⟩ := Rs.and_ok h
    have h2 := ho _ _ h1
    have h3 := loopF_len ho n _ _ _ h
    have h4 := fold_len x.1 acc
    rw [List.length_drop] at h3
    omega
theorem loopF_more {one : Txt → Rs (List Pt × Nat)} (ho : Takes1 one) : ∀ (n m : Nat) (acc : List Pt) (s : Txt), s.length < n → s.length < m → loopF one n acc s = loopF one m acc s
  | 0, _, _, _, h, _ => by omega
  | _, 0, _, _, _, h => by omega
  | n + 1, m + 1, acc, [], _, _ => rfl
  | n + 1, m + 1, acc, c :: r, h1, h2 => by
    simp only [loopF]
    cases h : one (c :: r) with
    | bad e => rfl
    | ok x =>
      have h3 := ho _ _ h
      simp only [List.length_cons] at h1 h2 h3
      exact loopF_more ho n m _ _ (by rw [List.length_drop, List.length_cons]; omega) (by rw [List.length_drop, List.length_cons]; omega)
theorem dblF_len {P : Txt → Rs (List Pt)} {s : Txt} {l : List Pt} (h : dblF P s = .ok l) : l.length ≤ s.length + 1 := by
  unfold dblF at h
  split at h
  · injection h with h
    rw [← h]
    simp
  · have := loopF_len (dblOne_takes P) _ _ _ _ h
    simp only [List.length_nil] at this
    omega
theorem outOne_takes (P : Txt → Rs (List Pt)) : Takes1 (outOne P) := by
  intro s x h
  cases s with
  | nil => cases h
  | cons c r =>
    simp only [outOne] at h
    split at h
    · rename_i hc
      subst hc
      obtain ⟨y, h1, h⟩ := Rs.and_ok h
      injection h with h
      have := dollarF_takes h1
      rw [← h]
      exact ⟨this.1, this.2, this.1⟩
    · split at h
      · split at h
        · cases h
        · rename_i hc t ht
          have h1 := unitD_takes 30 _ _ ht
          simp only [List.length_cons] at h1
          split at h
          · rename_i h92
            subst h92
            injection h with h
            rw [← h]
            have : r ≠ [] := by
              rintro rfl
              rw [show unitD 30 [92] = none from rfl] at ht
              cases ht
            have := List.length_pos_iff.2 this
            simp only [List.length_cons, List.length_nil]
            omega
          · have hq : ∀ u, c = 39 ∨ c = 34 → unitD 30 (c :: r) = some u → u.length + 1 ≤ r.length := by
              intro u hc hu
              rcases hc with rfl | rfl
              · have : quoteEnd r = some u := hu
                have := quoteEnd_length this
                omega
              · have : untilD 29 34 r = some u := hu
                have := untilD_takes 29 34 _ _ this
                omega
            rename_i h92
            have h2 := hq t (Or.resolve_left (by assumption) h92) ht
            split at h
            · obtain ⟨l, h3, h⟩ := Rs.and_ok h
              injection h with h
              have h4 := dblF_len h3
              rw [List.length_take] at h4
              rw [← h]
              simp only [List.length_cons]
              omega
            · injection h with h
              rw [← h]
              simp only [List.length_cons, List.length_nil]
              omega
      · injection h with h
        rw [← h]
        simp only [List.length_cons, List.length_nil]
        omega
theorem wpL_len {L : Nat} {s : Txt} {l : List Pt} (h : wpL L s = .ok l) : l.length ≤ s.length := by
  cases L with
  | zero => cases h
  | succ L =>
    have := loopF_len (outOne_takes _) _ _ _ _ h
    simpa using this
end Go.Proofs.YtcoeiiihmpnagaaDoor
namespace Go.Proofs.YtcoeiiihmpnagaaDoor

/-- A node: its kind, whether it is negated, its name, words, assignments, redirections, operators and kids. -/
inductive Nd where
  | mk (k : Int) (neg : Bool) (nm : Txt) (ws : List (List Pt)) (as : List (Txt × List Pt)) (rs : List (Txt × List Pt)) (os : List Txt) (ks : List Nd)
namespace Nd
def k : Nd → Int
  | .mk k _ _ _ _ _ _ _ => k
def neg : Nd → Bool
  | .mk _ x _ _ _ _ _ _ => x
def nm : Nd → Txt
  | .mk _ _ x _ _ _ _ _ => x
def ws : Nd → List (List Pt)
  | .mk _ _ _ x _ _ _ _ => x
def as : Nd → List (Txt × List Pt)
  | .mk _ _ _ _ x _ _ _ => x
def rs : Nd → List (Txt × List Pt)
  | .mk _ _ _ _ _ x _ _ => x
def os : Nd → List Txt
  | .mk _ _ _ _ _ _ x _ => x
def ks : Nd → List Nd
  | .mk _ _ _ _ _ _ _ x => x
end Nd
theorem Nd.eta (p : Nd) : Nd.mk p.k p.neg p.nm p.ws p.as p.rs p.os p.ks = p := by cases p; rfl
abbrev Ts := List (Nat × Txt)
abbrev Pr (α : Type) := Ts → Rs (α × Ts)

/-! ### Loops -/
def many {σ α : Type} (step : σ → Ts → Rs ((σ × Ts) ⊕ (α × Ts))) : Nat → σ → Pr α
  | 0, _, _ => .bad 0
  | n + 1, a, s => (step a s).and fun x => match x with
    | .inl y => many step n y.1 y.2
    | .inr y => .ok y
/-- A round takes something; the end takes no less than nothing. -/
def Sinks {σ α : Type} (step : σ → Ts → Rs ((σ × Ts) ⊕ (α × Ts))) : Prop := ∀ a s x, step a s = .ok x → match x with
  | .inl y => y.2.length < s.length
  | .inr y => y.2.length ≤ s.length
def manyF {σ α : Type} (step : σ → Ts → Rs ((σ × Ts) ⊕ (α × Ts))) (a : σ) : Pr α := fun s => many step (s.length + 1) a s
theorem many_more {σ α : Type} {step : σ → Ts → Rs ((σ × Ts) ⊕ (α × Ts))} (hs : Sinks step) : ∀ (n m : Nat) (a : σ) (s : Ts), s.length < n → s.length < m → many step n a s = many step m a s
  | 0, _, _, _, h, _ => by omega
  | _, 0, _, _, _, h => by omega
  | n + 1, m + 1, a, s, h1, h2 => by
    simp only [many]
    cases h : step a s with
    | bad e => rfl
    | ok x =>
      have h3 := hs _ _ _ h
      cases x with
      | inr y => rfl
      | inl y =>
        have h3 : y.2.length < s.length := h3
        exact many_more hs n m y.1 y.2 (by omega) (by omega)
theorem manyF_step {σ α : Type} {step : σ → Ts → Rs ((σ × Ts) ⊕ (α × Ts))} (hs : Sinks step) (a : σ) (s : Ts) : manyF step a s = (step a s).and fun x => match x with
    | .inl y => manyF step y.1 y.2
    | .inr y => .ok y := by
  show ((step a s).and fun x => match x with
    | .inl y => many step s.length y.1 y.2
    | .inr y => .ok y) = _
  cases h : step a s with
  | bad e => rfl
  | ok x =>
    have h3 := hs _ _ _ h
    cases x with
    | inr y => rfl
    | inl y =>
      have h3 : y.2.length < s.length := h3
      exact many_more hs _ _ y.1 y.2 (by omega) (by omega)
/-- It takes no less than nothing; it takes something. -/
def Less {α : Type} (f : Pr α) : Prop := ∀ s x, f s = .ok x → x.2.length ≤ s.length
def Eats {α : Type} (f : Pr α) : Prop := ∀ s x, f s = .ok x → x.2.length < s.length
theorem Eats.less {α : Type} {f : Pr α} (h : Eats f) : Less f := fun s x hx => Nat.le_of_lt (h s x hx)
theorem many_less {σ α : Type} {step : σ → Ts → Rs ((σ × Ts) ⊕ (α × Ts))} (hs : Sinks step) : ∀ (n : Nat) (a : σ) (s : Ts) (x : α × Ts), many step n a s = .ok x → x.2.length ≤ s.length
  | 0, _, _, _, h => by cases h
  | n + 1, a, s, x, h => by
    simp only [many] at h
    obtain ⟨y, h1, h⟩ := Rs.and_ok h
    have h3 := hs _ _ _ h1
    cases y with
    | inr y =>
      injection h with h
      subst h
      exact h3
    | inl y =>
      have h3 : y.2.length < s.length := h3
      have := many_less hs n _ _ _ h
      omega
theorem manyF_less {σ α : Type} {step : σ → Ts → Rs ((σ × Ts) ⊕ (α × Ts))} (hs : Sinks step) (a : σ) : Less (manyF step a) := fun s x h => many_less hs _ a s x h

/-! ### Tokens -/
def isT (k : Nat) (t : Txt) (s : Ts) : Bool := decide (s.head? = some (k, t))
def isW : Ts → Bool
  | (k, _) :: _ => decide (k = 0)
  | [] => false
def lineT : Nat × Txt := (2, [10])
def linesF : Ts → Ts
  | [] => []
  | x :: r => if x = lineT then linesF r else x :: r
abbrev tSemi : Txt := [59]
abbrev tSemi2 : Txt := [59, 59]
abbrev tOpen : Txt := [40]
abbrev tShut : Txt := [41]
abbrev tPipe : Txt := [124]
abbrev tAnd : Txt := [38, 38]
abbrev tOr : Txt := [124, 124]
abbrev tLess : Txt := [60]
abbrev tMore : Txt := [62]
abbrev tMore2 : Txt := [62, 62]
abbrev tBang : Txt := [33]
abbrev tBrace : Txt := [123]
abbrev tEcarb : Txt := [125]
abbrev tIf : Txt := [105, 102]
abbrev tThen : Txt := [116, 104, 101, 110]
abbrev tElif : Txt := [101, 108, 105, 102]
abbrev tElse : Txt := [101, 108, 115, 101]
abbrev tFi : Txt := [102, 105]
abbrev tDo : Txt := [100, 111]
abbrev tDone : Txt := [100, 111, 110, 101]
abbrev tEsac : Txt := [101, 115, 97, 99]
abbrev tWhile : Txt := [119, 104, 105, 108, 101]
abbrev tUntil : Txt := [117, 110, 116, 105, 108]
abbrev tFor : Txt := [102, 111, 114]
abbrev tIn : Txt := [105, 110]
abbrev tCase : Txt := [99, 97, 115, 101]
def closL : List Txt := [tThen, tElif, tElse, tFi, tDo, tDone, tEsac, tEcarb]
def endsF : Ts → Bool
  | [] => true
  | (k, t) :: _ => (decide (k = 1) && (decide (t = tShut) || decide (t = tSemi2))) || (decide (k = 0) && closL.contains t)
def isName (t : Txt) : Bool := decide (t ≠ [] ∧ nameN t = t.length)

/-! ### Words, redirections, simple commands -/
def partsF : Pr (List Pt)
  | (k, t) :: r => if k = 0 then (wpL 30 t).and fun l => .ok (l, r) else .bad 100
  | [] => .bad 100
def redirB (s : Ts) : Bool := isT 1 tLess s || isT 1 tMore s || isT 1 tMore2 s
def redirF : Pr (Txt × List Pt)
  | (_, op) :: r => (partsF r).and fun x => .ok ((op, x.1), x.2)
  | [] => .bad 100
def redirsS (acc : List (Txt × List Pt)) (s : Ts) : Rs ((List (Txt × List Pt) × Ts) ⊕ (List (Txt × List Pt) × Ts)) :=
  if redirB s = true then (redirF s).and fun x => .ok (.inl (acc ++ [x.1], x.2)) else .ok (.inr (acc, s))
def asgF (t : Txt) : Option (Txt × Txt) := if 0 < nameN t ∧ t[nameN t]? = some 61 then some (t.take (nameN t), t.drop (nameN t + 1)) else none
def simpleS (a : List (List Pt) × List (Txt × List Pt) × List (Txt × List Pt)) (s : Ts) : Rs (((List (List Pt) × List (Txt × List Pt) × List (Txt × List Pt)) × Ts) ⊕ (Nd × Ts)) :=
  if redirB s = true then (redirF s).and fun x => .ok (.inl ((a.1, a.2.1, a.2.2 ++ [x.1]), x.2))
  else match s with
  | (k, t) :: r =>
    if k = 0 then match (if a.1 = [] then asgF t else none) with
      | some y => (wpL 30 y.2).and fun l => .ok (.inl ((a.1, a.2.1 ++ [(y.1, l)], a.2.2), r))
      | none => (wpL 30 t).and fun l => .ok (.inl ((a.1 ++ [l], a.2.1, a.2.2), r))
    else if a.1.length + a.2.1.length + a.2.2.length = 0 then .bad 100 else .ok (.inr (.mk 0 false [] a.1 a.2.1 a.2.2 [] [], (k, t) :: r))
  | [] => if a.1.length + a.2.1.length + a.2.2.length = 0 then .bad 100 else .ok (.inr (.mk 0 false [] a.1 a.2.1 a.2.2 [] [], []))
def simpleF : Pr Nd := manyF simpleS ([], [], [])

/-! ### Pipes, and-ors, lists -/
def pipeN (neg : Bool) : List Nd → Nd
  | [k] => if neg = true then .mk 1 true [] [] [] [] [] [k] else k
  | ks => .mk 1 neg [] [] [] [] [] ks
def pipeS (cmd : Pr Nd) (neg : Bool) (ks : List Nd) (s : Ts) : Rs ((List Nd × Ts) ⊕ (Nd × Ts)) :=
  if isT 1 tPipe s = true then (cmd (linesF s.tail)).and fun x => .ok (.inl (ks ++ [x.1], x.2)) else .ok (.inr (pipeN neg ks, s))
def pipeF (cmd : Pr Nd) : Pr Nd := fun s =>
  (cmd (if isT 0 tBang s = true then s.tail else s)).and fun x => manyF (pipeS cmd (isT 0 tBang s)) [x.1] x.2
def andN (os : List Txt) (ks : List Nd) : Nd := match os with
  | [] => match ks with
    | [k] => k
    | ks => .mk 2 false [] [] [] [] [] ks
  | os => .mk 2 false [] [] [] [] os ks
def andB (s : Ts) : Bool := isT 1 tAnd s || isT 1 tOr s
def andS (cmd : Pr Nd) (a : List Txt × List Nd) (s : Ts) : Rs (((List Txt × List Nd) × Ts) ⊕ (Nd × Ts)) := match s with
  | (k, t) :: r => if andB ((k, t) :: r) = true then (pipeF cmd (linesF r)).and fun x => .ok (.inl ((a.1 ++ [t], a.2 ++ [x.1]), x.2)) else .ok (.inr (andN a.1 a.2, (k, t) :: r))
  | [] => .ok (.inr (andN a.1 a.2, []))
def andF (cmd : Pr Nd) : Pr Nd := fun s => (pipeF cmd s).and fun x => manyF (andS cmd) ([], [x.1]) x.2
def listN (ks : List Nd) : Nd := .mk 3 false [] [] [] [] [] ks
def listS (cmd : Pr Nd) (ks : List Nd) (s : Ts) : Rs ((List Nd × Ts) ⊕ (Nd × Ts)) :=
  if endsF s = true then .ok (.inr (listN ks, s))
  else (andF cmd s).and fun x =>
    if isT 1 tSemi x.2 = true then .ok (.inl (ks ++ [x.1], linesF x.2.tail))
    else if isT 2 [10] x.2 = true then .ok (.inl (ks ++ [x.1], linesF x.2))
    else .ok (.inr (listN (ks ++ [x.1]), x.2))
def listF (cmd : Pr Nd) : Pr Nd := fun s => manyF (listS cmd) [] (linesF s)
def someF (cmd : Pr Nd) : Pr Nd := fun s => (listF cmd s).and fun x => if x.1.ks = [] then .bad 100 else .ok x

/-! ### Commands -/
def tookF (k : Nat) (t : Txt) (x : Nd × Ts) : Rs (Nd × Ts) := if isT k t x.2 = true then .ok (x.1, x.2.tail) else .bad 100
def insideF (cmd : Pr Nd) (kind : Int) (k : Nat) (t : Txt) : Pr Nd := fun s => (someF cmd s).and fun x => tookF k t (.mk kind false [] [] [] [] [] [x.1], x.2)
def branchF (cmd br : Pr Nd) : Pr Nd := fun s =>
  (someF cmd s).and fun c => (tookF 0 tThen c).and fun c => (someF cmd c.2).and fun t =>
    if isT 0 tElif t.2 = true then (br t.2.tail).and fun x => .ok (.mk 6 false [] [] [] [] [] [c.1, t.1, listN [x.1]], x.2)
    else if isT 0 tElse t.2 = true then (someF cmd t.2.tail).and fun x => .ok (.mk 6 false [] [] [] [] [] [c.1, t.1, x.1], x.2)
    else .ok (.mk 6 false [] [] [] [] [] [c.1, t.1], t.2)
def bodyF (cmd : Pr Nd) : Pr Nd := fun s => if isT 0 tDo s = true then (someF cmd s.tail).and fun x => tookF 0 tDone x else .bad 100
def loopSF (cmd : Pr Nd) (nm : Txt) : Pr Nd := fun s => (someF cmd s).and fun c => (bodyF cmd c.2).and fun b => .ok (.mk 7 false nm [] [] [] [] [c.1, b.1], b.2)
def wordsS (acc : List (List Pt)) (s : Ts) : Rs ((List (List Pt) × Ts) ⊕ (List (List Pt) × Ts)) :=
  if isW s = true then (partsF s).and fun x => .ok (.inl (acc ++ [x.1], x.2)) else .ok (.inr (acc, s))
def eachE (cmd : Pr Nd) (nm : Txt) (ws : List (List Pt)) (os : List Txt) : Pr Nd := fun s =>
  (bodyF cmd (linesF (if isT 1 tSemi s = true then s.tail else s))).and fun b => .ok (.mk 8 false nm ws [] [] os [b.1], b.2)
def eachF (cmd : Pr Nd) : Pr Nd
  | (k, t) :: r =>
    if k = 0 ∧ isName t = true then
      if isT 0 tIn (linesF r) = true then (manyF wordsS [] (linesF r).tail).and fun x => if isT 1 tSemi x.2 = true ∨ isT 2 [10] x.2 = true then eachE cmd t x.1 [tIn] x.2 else .bad 100
      else eachE cmd t [] [] (linesF r)
    else .bad 100
  | [] => .bad 100
def orsS (acc : List (List Pt)) (s : Ts) : Rs ((List (List Pt) × Ts) ⊕ (List (List Pt) × Ts)) :=
  if isT 1 tPipe s = true then (partsF s.tail).and fun x => .ok (.inl (acc ++ [x.1], x.2)) else .ok (.inr (acc, s))
def itemF (cmd : Pr Nd) : Pr Nd := fun s =>
  (partsF (if isT 1 tOpen s = true then s.tail else s)).and fun w => (manyF orsS [w.1] w.2).and fun ws =>
    if isT 1 tShut ws.2 = true then (listF cmd ws.2.tail).and fun x => .ok (.mk 10 false [] ws.1 [] [] [] [x.1], x.2) else .bad 100
def caseS (cmd : Pr Nd) (w : List Pt) (ks : List Nd) (s : Ts) : Rs ((List Nd × Ts) ⊕ (Nd × Ts)) :=
  if isT 0 tEsac s = true then .ok (.inr (.mk 9 false [] [w] [] [] [] ks, s.tail))
  else (itemF cmd s).and fun x =>
    if isT 1 tSemi2 x.2 = true then .ok (.inl (ks ++ [x.1], linesF x.2.tail))
    else if isT 0 tEsac x.2 = true then .ok (.inl (ks ++ [x.1], linesF x.2))
    else .bad 100
def casesF (cmd : Pr Nd) : Pr Nd := fun s => (partsF s).and fun w => if isT 0 tIn (linesF w.2) = true then manyF (caseS cmd w.1) [] (linesF (linesF w.2).tail) else .bad 100
def funcB : Ts → Bool
  | (k, t) :: r => decide (k = 0) && isName t && isT 1 tOpen r && isT 1 tShut r.tail
  | [] => false
def defF (cmd : Pr Nd) : Pr Nd
  | (_, t) :: r => (cmd (linesF r.tail.tail)).and fun x => if 4 ≤ x.1.k ∧ x.1.k ≤ 9 then .ok (.mk 11 false t [] [] [] [] [x.1], x.2) else .bad 100
  | [] => .bad 100
def withR (x : Nd × Ts) : Rs (Nd × Ts) := (manyF redirsS [] x.2).and fun y => .ok (.mk x.1.k x.1.neg x.1.nm x.1.ws x.1.as y.1 x.1.os x.1.ks, y.2)
/-- What is of more than one word; br reads what stands behind an if. -/
def compF (cmd br : Pr Nd) (s : Ts) : Option (Rs (Nd × Ts)) :=
  if isT 1 tOpen s = true then some (insideF cmd 5 1 tShut s.tail)
  else if isT 0 tBrace s = true then some (insideF cmd 4 0 tEcarb s.tail)
  else if isT 0 tIf s = true then some ((br s.tail).and (tookF 0 tFi))
  else if isT 0 tWhile s = true then some (loopSF cmd tWhile s.tail)
  else if isT 0 tUntil s = true then some (loopSF cmd tUntil s.tail)
  else if isT 0 tFor s = true then some (eachF cmd s.tail)
  else if isT 0 tCase s = true then some (casesF cmd s.tail)
  else none
def resB : Ts → Bool
  | (k, t) :: _ => decide (k = 0) && (closL.contains t || decide (t = tBang))
  | [] => false
def commandF (cmd br : Pr Nd) : Pr Nd := fun s => match compF cmd br s with
  | some x => x.and withR
  | none => if resB s = true then .bad 100 else if funcB s = true then defF cmd s else simpleF s
/-- Commands, and what stands behind an if, with so many levels left. -/
def lvS : Nat → Pr Nd × Pr Nd
  | 0 => (fun _ => .bad 2, fun _ => .bad 2)
  | L + 1 => (commandF (lvS L).1 (branchF (lvS L).1 (lvS L).2), branchF (lvS L).1 (lvS L).2)
def scriptF (s : Ts) : Rs Nd := (listF (lvS 30).1 s).and fun x => if x.2 = [] then .ok x.1 else .bad 100

/-! ### What is taken -/
theorem linesF_le : ∀ s : Ts, (linesF s).length ≤ s.length
  | [] => Nat.le_refl _
  | x :: r => by
    have := linesF_le r
    simp only [linesF]
    split
    · simp only [List.length_cons]; omega
    · exact Nat.le_refl _
theorem isT_cons {k : Nat} {t : Txt} {s : Ts} (h : isT k t s = true) : s = (k, t) :: s.tail := by
  have h := of_decide_eq_true h
  cases s with
  | nil => cases h
  | cons a r => rw [Option.some.inj h]; rfl
theorem isT_len {k : Nat} {t : Txt} {s : Ts} (h : isT k t s = true) : s.tail.length + 1 = s.length := by
  rw [isT_cons h]
  rfl
theorem tail_le (s : Ts) : s.tail.length ≤ s.length := by rw [List.length_tail]; omega
theorem partsF_eats : Eats partsF := by
  intro s x h
  match s with
  | [] => cases h
  | (k, t) :: r =>
    simp only [partsF] at h
    split at h
    · obtain ⟨l, _, h⟩ := Rs.and_ok h
      injection h with h
      subst h
      exact Nat.lt_succ_self _
    · cases h
theorem redirF_eats : Eats redirF := by
  intro s x h
  match s with
  | [] => cases h
  | (k, t) :: r =>
    simp only [redirF] at h
    obtain ⟨l, h1, h⟩ := Rs.and_ok h
    injection h with h
    subst h
    have := partsF_eats _ _ h1
    simp only [List.length_cons]
    omega
theorem redirsS_sinks : Sinks redirsS := by
  intro a s x h
  unfold redirsS at h
  split at h
  · obtain ⟨l, h1, h⟩ := Rs.and_ok h
    injection h with h
    subst h
    exact redirF_eats _ _ h1
  · injection h with h
    subst h
    exact Nat.le_refl _
theorem simpleS_sinks : Sinks simpleS := by
  intro a s x h
  unfold simpleS at h
  split at h
  · obtain ⟨l, h1, h⟩ := Rs.and_ok h
    injection h with h
    subst h
    exact redirF_eats _ _ h1
  · split at h
    · split at h
      · split at h <;> (obtain ⟨l, h1, h⟩ := Rs.and_ok h; injection h with h; subst h; exact Nat.lt_succ_self _)
      · split at h
        · cases h
        · injection h with h
          subst h
          exact Nat.le_refl _
    · split at h
      · cases h
      · injection h with h
        subst h
        exact Nat.le_refl _
theorem simpleF_eats : Eats simpleF := by
  intro s x h
  unfold simpleF at h
  rw [manyF_step simpleS_sinks] at h
  obtain ⟨y, h1, h⟩ := Rs.and_ok h
  have h2 := simpleS_sinks _ _ _ h1
  cases y with
  | inl y =>
    have h2 : y.2.length < s.length := h2
    have := manyF_less simpleS_sinks _ _ _ h
    omega
  | inr y =>
    exfalso
    unfold simpleS at h1
    split at h1
    · obtain ⟨l, _, h1⟩ := Rs.and_ok h1
      cases h1
    · split at h1
      · split at h1
        · split at h1 <;> (obtain ⟨l, _, h1⟩ := Rs.and_ok h1; cases h1)
        · simp at h1
      · simp at h1
theorem pipeS_sinks {cmd : Pr Nd} (hc : Eats cmd) (neg : Bool) : Sinks (pipeS cmd neg) := by
  intro a s x h
  unfold pipeS at h
  split at h
  · rename_i hp
    obtain ⟨l, h1, h⟩ := Rs.and_ok h
    injection h with h
    subst h
    have h2 := hc _ _ h1
    have h3 := linesF_le s.tail
    have h4 := isT_len hp
    show l.2.length < s.length
    omega
  · injection h with h
    subst h
    exact Nat.le_refl _
theorem pipeF_eats {cmd : Pr Nd} (hc : Eats cmd) : Eats (pipeF cmd) := by
  intro s x h
  obtain ⟨y, h1, h⟩ := Rs.and_ok h
  have h2 := hc _ _ h1
  have h3 := manyF_less (pipeS_sinks hc _) _ _ _ h
  have h4 := tail_le s
  split at h2 <;> omega
theorem andS_sinks {cmd : Pr Nd} (hc : Eats cmd) : Sinks (andS cmd) := by
  intro a s x h
  unfold andS at h
  split at h
  · split at h
    · obtain ⟨l, h1, h⟩ := Rs.and_ok h
      injection h with h
      subst h
      have h2 := pipeF_eats hc _ _ h1
      rename_i r _
      have h3 := linesF_le r
      show l.2.length < _
      simp only [List.length_cons]
      omega
    · injection h with h
      subst h
      exact Nat.le_refl _
  · injection h with h
    subst h
    exact Nat.le_refl _
theorem andF_eats {cmd : Pr Nd} (hc : Eats cmd) : Eats (andF cmd) := by
  intro s x h
  obtain ⟨y, h1, h⟩ := Rs.and_ok h
  have h2 := pipeF_eats hc _ _ h1
  have h3 := manyF_less (andS_sinks hc) _ _ _ h
  omega
theorem listS_sinks {cmd : Pr Nd} (hc : Eats cmd) : Sinks (listS cmd) := by
  intro a s x h
  unfold listS at h
  split at h
  · injection h with h
    subst h
    exact Nat.le_refl _
  · obtain ⟨y, h1, h⟩ := Rs.and_ok h
    have h2 := andF_eats hc _ _ h1
    have h3 := linesF_le y.2
    have h4 := linesF_le y.2.tail
    have h5 := tail_le y.2
    split at h
    · injection h with h
      subst h
      show (linesF y.2.tail).length < _
      omega
    · split at h
      · injection h with h
        subst h
        show (linesF y.2).length < _
        omega
      · injection h with h
        subst h
        exact Nat.le_of_lt h2
theorem listF_less {cmd : Pr Nd} (hc : Eats cmd) : Less (listF cmd) := by
  intro s x h
  have h1 := manyF_less (listS_sinks hc) _ _ _ h
  have := linesF_le s
  omega
theorem someF_less {cmd : Pr Nd} (hc : Eats cmd) : Less (someF cmd) := by
  intro s x h
  obtain ⟨y, h1, h⟩ := Rs.and_ok h
  split at h
  · cases h
  · injection h with h
    subst h
    exact listF_less hc _ _ h1
theorem tookF_eats {k : Nat} {t : Txt} {x y : Nd × Ts} (h : tookF k t x = .ok y) : y.2.length < x.2.length ∧ y.1 = x.1 := by
  unfold tookF at h
  split at h
  · rename_i hp
    injection h with h
    subst h
    have := isT_len hp
    exact ⟨by dsimp only; omega, rfl⟩
  · cases h
theorem insideF_eats {cmd : Pr Nd} (hc : Eats cmd) (kind : Int) (k : Nat) (t : Txt) : Eats (insideF cmd kind k t) := by
  intro s x h
  obtain ⟨y, h1, h⟩ := Rs.and_ok h
  have h2 := someF_less hc _ _ h1
  have h3 := (tookF_eats h).1
  dsimp only at h3
  omega
theorem branchF_eats {cmd br : Pr Nd} (hc : Eats cmd) (hb : Eats br) : Eats (branchF cmd br) := by
  intro s x h
  obtain ⟨c, h1, h⟩ := Rs.and_ok h
  obtain ⟨c', h2, h⟩ := Rs.and_ok h
  obtain ⟨t, h3, h⟩ := Rs.and_ok h
  have g1 := someF_less hc _ _ h1
  have g2 := (tookF_eats h2).1
  have g3 := someF_less hc _ _ h3
  have g4 := tail_le t.2
  split at h
  · obtain ⟨y, h4, h⟩ := Rs.and_ok h
    injection h with h
    subst h
    have := hb _ _ h4
    dsimp only
    omega
  · split at h
    · obtain ⟨y, h4, h⟩ := Rs.and_ok h
      injection h with h
      subst h
      have := someF_less hc _ _ h4
      dsimp only
      omega
    · injection h with h
      subst h
      dsimp only
      omega
theorem bodyF_eats {cmd : Pr Nd} (hc : Eats cmd) : Eats (bodyF cmd) := by
  intro s x h
  unfold bodyF at h
  split at h
  · rename_i hp
    obtain ⟨y, h1, h⟩ := Rs.and_ok h
    have h2 := someF_less hc _ _ h1
    have h3 := (tookF_eats h).1
    have h4 := tail_le s
    omega
  · cases h
theorem loopSF_eats {cmd : Pr Nd} (hc : Eats cmd) (nm : Txt) : Eats (loopSF cmd nm) := by
  intro s x h
  obtain ⟨c, h1, h⟩ := Rs.and_ok h
  obtain ⟨b, h2, h⟩ := Rs.and_ok h
  injection h with h
  subst h
  have g1 := someF_less hc _ _ h1
  have g2 := bodyF_eats hc _ _ h2
  dsimp only
  omega
theorem wordsS_sinks : Sinks wordsS := by
  intro a s x h
  unfold wordsS at h
  split at h
  · obtain ⟨l, h1, h⟩ := Rs.and_ok h
    injection h with h
    subst h
    exact partsF_eats _ _ h1
  · injection h with h
    subst h
    exact Nat.le_refl _
theorem eachE_eats {cmd : Pr Nd} (hc : Eats cmd) (nm : Txt) (ws : List (List Pt)) (os : List Txt) : Eats (eachE cmd nm ws os) := by
  intro s x h
  obtain ⟨b, h2, h⟩ := Rs.and_ok h
  injection h with h
  subst h
  have g2 := bodyF_eats hc _ _ h2
  have g3 := linesF_le (if isT 1 tSemi s = true then s.tail else s)
  have g4 := tail_le s
  dsimp only
  split at g3 <;> simp_all <;> omega
theorem eachF_eats {cmd : Pr Nd} (hc : Eats cmd) : Eats (eachF cmd) := by
  intro s x h
  match s with
  | [] => cases h
  | (k, t) :: r =>
    have g1 := linesF_le r
    have g2 := tail_le (linesF r)
    simp only [eachF] at h
    split at h
    · split at h
      · obtain ⟨y, h1, h⟩ := Rs.and_ok h
        have g3 := manyF_less wordsS_sinks _ _ _ h1
        split at h
        · have g4 := eachE_eats hc _ _ _ _ _ h
          simp only [List.length_cons]
          omega
        · cases h
      · have g4 := eachE_eats hc _ _ _ _ _ h
        simp only [List.length_cons]
        omega
    · cases h
theorem orsS_sinks : Sinks orsS := by
  intro a s x h
  unfold orsS at h
  split at h
  · obtain ⟨l, h1, h⟩ := Rs.and_ok h
    injection h with h
    subst h
    have := partsF_eats _ _ h1
    have := tail_le s
    show l.2.length < s.length
    omega
  · injection h with h
    subst h
    exact Nat.le_refl _
theorem itemF_eats {cmd : Pr Nd} (hc : Eats cmd) : Eats (itemF cmd) := by
  intro s x h
  obtain ⟨w, h1, h⟩ := Rs.and_ok h
  obtain ⟨ws, h2, h⟩ := Rs.and_ok h
  have g1 := partsF_eats _ _ h1
  have g2 := manyF_less orsS_sinks _ _ _ h2
  have g3 := tail_le s
  have g4 := tail_le ws.2
  split at h
  · obtain ⟨y, h3, h⟩ := Rs.and_ok h
    injection h with h
    subst h
    have g5 := listF_less hc _ _ h3
    dsimp only
    split at g1 <;> omega
  · cases h
theorem caseS_sinks {cmd : Pr Nd} (hc : Eats cmd) (w : List Pt) : Sinks (caseS cmd w) := by
  intro a s x h
  unfold caseS at h
  split at h
  · injection h with h
    subst h
    exact tail_le s
  · obtain ⟨y, h1, h⟩ := Rs.and_ok h
    have h2 := itemF_eats hc _ _ h1
    have h3 := linesF_le y.2
    have h4 := linesF_le y.2.tail
    have h5 := tail_le y.2
    split at h
    · injection h with h
      subst h
      show (linesF y.2.tail).length < _
      omega
    · split at h
      · injection h with h
        subst h
        show (linesF y.2).length < _
        omega
      · cases h
theorem casesF_eats {cmd : Pr Nd} (hc : Eats cmd) : Eats (casesF cmd) := by
  intro s x h
  obtain ⟨w, h1, h⟩ := Rs.and_ok h
  have g1 := partsF_eats _ _ h1
  split at h
  · have g2 := manyF_less (caseS_sinks hc _) _ _ _ h
    have g3 := linesF_le w.2
    have g4 := tail_le (linesF w.2)
    have g5 := linesF_le (linesF w.2).tail
    omega
  · cases h
theorem defF_eats {cmd : Pr Nd} (hc : Eats cmd) : Eats (defF cmd) := by
  intro s x h
  match s with
  | [] => cases h
  | (k, t) :: r =>
    simp only [defF] at h
    obtain ⟨y, h1, h⟩ := Rs.and_ok h
    have g1 := hc _ _ h1
    have g2 := linesF_le r.tail.tail
    have g3 := tail_le r
    have g4 := tail_le r.tail
    split at h
    · injection h with h
      subst h
      simp only [List.length_cons]
      omega
    · cases h
theorem withR_less {x y : Nd × Ts} (h : withR x = .ok y) : y.2.length ≤ x.2.length := by
  obtain ⟨z, h1, h⟩ := Rs.and_ok h
  injection h with h
  subst h
  exact manyF_less redirsS_sinks _ _ _ h1
theorem compF_eats {cmd br : Pr Nd} (hc : Eats cmd) (hb : Eats br) {s : Ts} {f : Rs (Nd × Ts)} (hf : compF cmd br s = some f) {x : Nd × Ts} (h : f = .ok x) : x.2.length < s.length := by
  have g := tail_le s
  unfold compF at hf
  subst h
  split at hf
  · have := insideF_eats hc _ _ _ _ _ (Option.some.inj hf); omega
  split at hf
  · have := insideF_eats hc _ _ _ _ _ (Option.some.inj hf); omega
  split at hf
  · obtain ⟨y, h1, h2⟩ := Rs.and_ok (Option.some.inj hf)
    have g1 := hb _ _ h1
    have g2 := (tookF_eats h2).1
    omega
  split at hf
  · have := loopSF_eats hc _ _ _ (Option.some.inj hf); omega
  split at hf
  · have := loopSF_eats hc _ _ _ (Option.some.inj hf); omega
  split at hf
  · have := eachF_eats hc _ _ (Option.some.inj hf); omega
  split at hf
  · have := casesF_eats hc _ _ (Option.some.inj hf); omega
  · cases hf
theorem commandF_eats {cmd br : Pr Nd} (hc : Eats cmd) (hb : Eats br) : Eats (commandF cmd br) := by
  intro s x h
  unfold commandF at h
  split at h
  · rename_i f hf
    obtain ⟨y, h1, h⟩ := Rs.and_ok h
    have g1 := compF_eats hc hb hf h1
    have g2 := withR_less h
    omega
  · split at h
    · cases h
    · split at h
      · exact defF_eats hc _ _ h
      · exact simpleF_eats _ _ h
theorem lvS_eats : ∀ L, Eats (lvS L).1 ∧ Eats (lvS L).2
  | 0 => ⟨fun s x h => (by cases h), fun s x h => (by cases h)⟩
  | L + 1 => by
    obtain ⟨h1, h2⟩ := lvS_eats L
    have hb := branchF_eats h1 h2
    exact ⟨commandF_eats h1 hb, hb⟩
end Go.Proofs.YtcoeiiihmpnagaaDoor
namespace Go.Proofs.YtcoeiiihmpnagaaDoor

def Suf {α : Type} (f : Pr α) : Prop := ∀ s x, f s = .ok x → x.2 <:+ s
def SufS {σ α : Type} (step : σ → Ts → Rs ((σ × Ts) ⊕ (α × Ts))) : Prop := ∀ a s x, step a s = .ok x → match x with
  | .inl y => y.2 <:+ s
  | .inr y => y.2 <:+ s
theorem many_suf {σ α : Type} {step : σ → Ts → Rs ((σ × Ts) ⊕ (α × Ts))} (hs : SufS step) : ∀ (n : Nat) (a : σ) (s : Ts) (x : α × Ts), many step n a s = .ok x → x.2 <:+ s
  | 0, _, _, _, h => by cases h
  | n + 1, a, s, x, h => by
    simp only [many] at h
    obtain ⟨y, h1, h⟩ := Rs.and_ok h
    have h3 := hs _ _ _ h1
    cases y with
    | inr y =>
      injection h with h
      subst h
      exact h3
    | inl y => exact (many_suf hs n _ _ _ h).trans h3
theorem manyF_suf {σ α : Type} {step : σ → Ts → Rs ((σ × Ts) ⊕ (α × Ts))} (hs : SufS step) (a : σ) : Suf (manyF step a) := fun s x h => many_suf hs _ a s x h
theorem linesF_suf : ∀ s : Ts, linesF s <:+ s
  | [] => List.suffix_refl _
  | x :: r => by
    simp only [linesF]
    split
    · exact (linesF_suf r).trans (List.suffix_cons _ _)
    · exact List.suffix_refl _
theorem tail_suf (s : Ts) : s.tail <:+ s := List.tail_suffix s
theorem ite_suf (c : Bool) (s : Ts) : (if c = true then s.tail else s) <:+ s := by
  split
  · exact tail_suf s
  · exact List.suffix_refl _
theorem partsF_suf : Suf partsF := by
  intro s x h
  match s with
  | [] => cases h
  | (k, t) :: r =>
    simp only [partsF] at h
    split at h
    · obtain ⟨l, _, h⟩ := Rs.and_ok h
      injection h with h
      subst h
      exact List.suffix_cons _ _
    · cases h
theorem redirF_suf : Suf redirF := by
  intro s x h
  match s with
  | [] => cases h
  | (k, t) :: r =>
    simp only [redirF] at h
    obtain ⟨l, h1, h⟩ := Rs.and_ok h
    injection h with h
    subst h
    exact (partsF_suf _ _ h1).trans (List.suffix_cons _ _)
theorem redirsS_suf : SufS redirsS := by
  intro a s x h
  unfold redirsS at h
  split at h
  · obtain ⟨l, h1, h⟩ := Rs.and_ok h
    injection h with h
    subst h
    exact redirF_suf _ _ h1
  · injection h with h
    subst h
    exact List.suffix_refl _
theorem simpleS_suf : SufS simpleS := by
  intro a s x h
  unfold simpleS at h
  split at h
  · obtain ⟨l, h1, h⟩ := Rs.and_ok h
    injection h with h
    subst h
    exact redirF_suf _ _ h1
  · split at h
    · split at h
      · split at h <;> (obtain ⟨l, h1, h⟩ := Rs.and_ok h; injection h with h; subst h; exact List.suffix_cons _ _)
      · split at h
        · cases h
        · injection h with h
          subst h
          exact List.suffix_refl _
    · split at h
      · cases h
      · injection h with h
        subst h
        exact List.suffix_refl _
theorem simpleF_suf : Suf simpleF := manyF_suf simpleS_suf _
theorem pipeS_suf {cmd : Pr Nd} (hc : Suf cmd) (neg : Bool) : SufS (pipeS cmd neg) := by
  intro a s x h
  unfold pipeS at h
  split at h
  · obtain ⟨l, h1, h⟩ := Rs.and_ok h
    injection h with h
    subst h
    exact (hc _ _ h1).trans ((linesF_suf _).trans (tail_suf s))
  · injection h with h
    subst h
    exact List.suffix_refl _
theorem pipeF_suf {cmd : Pr Nd} (hc : Suf cmd) : Suf (pipeF cmd) := by
  intro s x h
  obtain ⟨y, h1, h⟩ := Rs.and_ok h
  exact (manyF_suf (pipeS_suf hc _) _ _ _ h).trans ((hc _ _ h1).trans (ite_suf _ s))
theorem andS_suf {cmd : Pr Nd} (hc : Suf cmd) : SufS (andS cmd) := by
  intro a s x h
  unfold andS at h
  split at h
  · split at h
    · obtain ⟨l, h1, h⟩ := Rs.and_ok h
      injection h with h
      subst h
      exact (pipeF_suf hc _ _ h1).trans ((linesF_suf _).trans (List.suffix_cons _ _))
    · injection h with h
      subst h
      exact List.suffix_refl _
  · injection h with h
    subst h
    exact List.suffix_refl _
theorem andF_suf {cmd : Pr Nd} (hc : Suf cmd) : Suf (andF cmd) := by
  intro s x h
  obtain ⟨y, h1, h⟩ := Rs.and_ok h
  exact (manyF_suf (andS_suf hc) _ _ _ h).trans (pipeF_suf hc _ _ h1)
theorem listS_suf {cmd : Pr Nd} (hc : Suf cmd) : SufS (listS cmd) := by
  intro a s x h
  unfold listS at h
  split at h
  · injection h with h
    subst h
    exact List.suffix_refl _
  · obtain ⟨y, h1, h⟩ := Rs.and_ok h
    have h2 := andF_suf hc _ _ h1
    split at h
    · injection h with h
      subst h
      exact (linesF_suf _).trans ((tail_suf _).trans h2)
    · split at h
      · injection h with h
        subst h
        exact (linesF_suf _).trans h2
      · injection h with h
        subst h
        exact h2
theorem listF_suf {cmd : Pr Nd} (hc : Suf cmd) : Suf (listF cmd) := fun s x h => (manyF_suf (listS_suf hc) _ _ _ h).trans (linesF_suf s)
theorem someF_suf {cmd : Pr Nd} (hc : Suf cmd) : Suf (someF cmd) := by
  intro s x h
  obtain ⟨y, h1, h⟩ := Rs.and_ok h
  split at h
  · cases h
  · injection h with h
    subst h
    exact listF_suf hc _ _ h1
theorem tookF_suf {k : Nat} {t : Txt} {x y : Nd × Ts} (h : tookF k t x = .ok y) : y.2 <:+ x.2 := by
  unfold tookF at h
  split at h
  · injection h with h
    subst h
    exact tail_suf _
  · cases h
theorem insideF_suf {cmd : Pr Nd} (hc : Suf cmd) (kind : Int) (k : Nat) (t : Txt) : Suf (insideF cmd kind k t) := by
  intro s x h
  obtain ⟨y, h1, h⟩ := Rs.and_ok h
  have g := someF_suf hc _ _ h1
  exact (tookF_suf h).trans g
theorem branchF_suf {cmd br : Pr Nd} (hc : Suf cmd) (hb : Suf br) : Suf (branchF cmd br) := by
  intro s x h
  obtain ⟨c, h1, h⟩ := Rs.and_ok h
  obtain ⟨c', h2, h⟩ := Rs.and_ok h
  obtain ⟨t, h3, h⟩ := Rs.and_ok h
  have g := (someF_suf hc _ _ h3).trans ((tookF_suf h2).trans (someF_suf hc _ _ h1))
  split at h
  · obtain ⟨y, h4, h⟩ := Rs.and_ok h
    injection h with h
    subst h
    exact (hb _ _ h4).trans ((tail_suf _).trans g)
  · split at h
    · obtain ⟨y, h4, h⟩ := Rs.and_ok h
      injection h with h
      subst h
      exact (someF_suf hc _ _ h4).trans ((tail_suf _).trans g)
    · injection h with h
      subst h
      exact g
theorem bodyF_suf {cmd : Pr Nd} (hc : Suf cmd) : Suf (bodyF cmd) := by
  intro s x h
  unfold bodyF at h
  split at h
  · obtain ⟨y, h1, h⟩ := Rs.and_ok h
    exact (tookF_suf h).trans ((someF_suf hc _ _ h1).trans (tail_suf s))
  · cases h
theorem loopSF_suf {cmd : Pr Nd} (hc : Suf cmd) (nm : Txt) : Suf (loopSF cmd nm) := by
  intro s x h
  obtain ⟨c, h1, h⟩ := Rs.and_ok h
  obtain ⟨b, h2, h⟩ := Rs.and_ok h
  injection h with h
  subst h
  exact (bodyF_suf hc _ _ h2).trans (someF_suf hc _ _ h1)
theorem wordsS_suf : SufS wordsS := by
  intro a s x h
  unfold wordsS at h
  split at h
  · obtain ⟨l, h1, h⟩ := Rs.and_ok h
    injection h with h
    subst h
    exact partsF_suf _ _ h1
  · injection h with h
    subst h
    exact List.suffix_refl _
theorem eachE_suf {cmd : Pr Nd} (hc : Suf cmd) (nm : Txt) (ws : List (List Pt)) (os : List Txt) : Suf (eachE cmd nm ws os) := by
  intro s x h
  obtain ⟨b, h2, h⟩ := Rs.and_ok h
  injection h with h
  subst h
  exact (bodyF_suf hc _ _ h2).trans ((linesF_suf _).trans (ite_suf _ s))
theorem eachF_suf {cmd : Pr Nd} (hc : Suf cmd) : Suf (eachF cmd) := by
  intro s x h
  match s with
  | [] => cases h
  | (k, t) :: r =>
    simp only [eachF] at h
    split at h
    · split at h
      · obtain ⟨y, h1, h⟩ := Rs.and_ok h
        have g := (manyF_suf wordsS_suf _ _ _ h1).trans ((tail_suf _).trans ((linesF_suf r).trans (List.suffix_cons (k, t) r)))
        split at h
        · exact (eachE_suf hc _ _ _ _ _ h).trans g
        · cases h
      · exact (eachE_suf hc _ _ _ _ _ h).trans ((linesF_suf r).trans (List.suffix_cons (k, t) r))
    · cases h
theorem orsS_suf : SufS orsS := by
  intro a s x h
  unfold orsS at h
  split at h
  · obtain ⟨l, h1, h⟩ := Rs.and_ok h
    injection h with h
    subst h
    exact (partsF_suf _ _ h1).trans (tail_suf s)
  · injection h with h
    subst h
    exact List.suffix_refl _
theorem itemF_suf {cmd : Pr Nd} (hc : Suf cmd) : Suf (itemF cmd) := by
  intro s x h
  obtain ⟨w, h1, h⟩ := Rs.and_ok h
  obtain ⟨ws, h2, h⟩ := Rs.and_ok h
  have g := (manyF_suf orsS_suf _ _ _ h2).trans ((partsF_suf _ _ h1).trans (ite_suf _ s))
  split at h
  · obtain ⟨y, h3, h⟩ := Rs.and_ok h
    injection h with h
    subst h
    exact (listF_suf hc _ _ h3).trans ((tail_suf _).trans g)
  · cases h
theorem caseS_suf {cmd : Pr Nd} (hc : Suf cmd) (w : List Pt) : SufS (caseS cmd w) := by
  intro a s x h
  unfold caseS at h
  split at h
  · injection h with h
    subst h
    exact tail_suf s
  · obtain ⟨y, h1, h⟩ := Rs.and_ok h
    have h2 := itemF_suf hc _ _ h1
    split at h
    · injection h with h
      subst h
      exact (linesF_suf _).trans ((tail_suf _).trans h2)
    · split at h
      · injection h with h
        subst h
        exact (linesF_suf _).trans h2
      · cases h
theorem casesF_suf {cmd : Pr Nd} (hc : Suf cmd) : Suf (casesF cmd) := by
  intro s x h
  obtain ⟨w, h1, h⟩ := Rs.and_ok h
  split at h
  · exact (manyF_suf (caseS_suf hc _) _ _ _ h).trans ((linesF_suf _).trans ((tail_suf _).trans ((linesF_suf _).trans (partsF_suf _ _ h1))))
  · cases h
theorem defF_suf {cmd : Pr Nd} (hc : Suf cmd) : Suf (defF cmd) := by
  intro s x h
  match s with
  | [] => cases h
  | (k, t) :: r =>
    simp only [defF] at h
    obtain ⟨y, h1, h⟩ := Rs.and_ok h
    split at h
    · injection h with h
      subst h
      exact (hc _ _ h1).trans ((linesF_suf _).trans ((tail_suf _).trans ((tail_suf _).trans (List.suffix_cons (k, t) r))))
    · cases h
theorem withR_suf {x y : Nd × Ts} (h : withR x = .ok y) : y.2 <:+ x.2 := by
  obtain ⟨z, h1, h⟩ := Rs.and_ok h
  injection h with h
  subst h
  exact manyF_suf redirsS_suf _ _ _ h1
theorem compF_suf {cmd br : Pr Nd} (hc : Suf cmd) (hb : Suf br) {s : Ts} {f : Rs (Nd × Ts)} (hf : compF cmd br s = some f) {x : Nd × Ts} (h : f = .ok x) : x.2 <:+ s := by
  have g := tail_suf s
  unfold compF at hf
  subst h
  split at hf
  · exact (insideF_suf hc _ _ _ _ _ (Option.some.inj hf)).trans g
  split at hf
  · exact (insideF_suf hc _ _ _ _ _ (Option.some.inj hf)).trans g
  split at hf
  · obtain ⟨y, h1, h2⟩ := Rs.and_ok (Option.some.inj hf)
    exact (tookF_suf h2).trans ((hb _ _ h1).trans g)
  split at hf
  · exact (loopSF_suf hc _ _ _ (Option.some.inj hf)).trans g
  split at hf
  · exact (loopSF_suf hc _ _ _ (Option.some.inj hf)).trans g
  split at hf
  · exact (eachF_suf hc _ _ (Option.some.inj hf)).trans g
  split at hf
  · exact (casesF_suf hc _ _ (Option.some.inj hf)).trans g
  · cases hf
theorem commandF_suf {cmd br : Pr Nd} (hc : Suf cmd) (hb : Suf br) : Suf (commandF cmd br) := by
  intro s x h
  unfold commandF at h
  split at h
  · rename_i f hf
    obtain ⟨y, h1, h⟩ := Rs.and_ok h
    exact (withR_suf h).trans (compF_suf hc hb hf h1)
  · split at h
    · cases h
    · split at h
      · exact defF_suf hc _ _ h
      · exact simpleF_suf _ _ h
theorem lvS_suf : ∀ L, Suf (lvS L).1 ∧ Suf (lvS L).2
  | 0 => ⟨fun s x h => (by cases h), fun s x h => (by cases h)⟩
  | L + 1 => by
    obtain ⟨h1, h2⟩ := lvS_suf L
    have hb := branchF_suf h1 h2
    exact ⟨commandF_suf h1 hb, hb⟩
/-- Few tokens, each of few bytes, none empty. -/
def TB (s : Ts) : Prop := s.length ≤ 20000 ∧ ∀ x ∈ s, x.2.length < 1000000 ∧ x.2 ≠ [] ∧ x.1 < 1000
theorem TB.suf {s r : Ts} (h : TB s) (hr : r <:+ s) : TB r := ⟨Nat.le_trans hr.length_le h.1, fun x hx => h.2 x (hr.subset hx)⟩
theorem TB.head {k : Nat} {t : Txt} {r : Ts} (h : TB ((k, t) :: r)) : t.length < 1000000 ∧ t ≠ [] := ⟨(h.2 (k, t) (by simp)).1, (h.2 (k, t) (by simp)).2.1⟩
theorem TB.kind {k : Nat} {t : Txt} {r : Ts} (h : TB ((k, t) :: r)) : k < 1000 := (h.2 (k, t) (by simp)).2.2
theorem TB.tail {x : Nat × Txt} {r : Ts} (h : TB (x :: r)) : TB r := h.suf (List.suffix_cons _ _)
end Go.Proofs.YtcoeiiihmpnagaaDoor
namespace Go.Proofs.YtcoeiiihmpnagaaDoor

/-- Two texts that would be one. -/
def Mg (x p : Pt) : Prop := p.k = 0 ∧ x.k = 0 ∧ x.q = p.q
theorem addP_nil (p : Pt) : addP [] p = [p] := rfl
theorem addP_snoc (l : List Pt) (x p : Pt) : addP (l ++ [x]) p = if p.k = 0 ∧ x.k = 0 ∧ x.q = p.q then l ++ [.mk x.k x.q (x.t ++ p.t) x.n x.o x.w] else l ++ [x] ++ [p] := by
  unfold addP
  simp
theorem snoc_of {l : List Pt} (h : l ≠ []) : ∃ m x, l = m ++ [x] := ⟨l.dropLast, l.getLast h, (List.dropLast_concat_getLast h).symm⟩
theorem addP_tx (acc : List Pt) (q : Bool) (a b : Txt) : addP (addP acc (tx q a)) (tx q b) = addP acc (tx q (a ++ b)) := by
  by_cases h : acc = []
  · subst h
    rw [addP_nil, addP_nil]
    have := addP_snoc [] (tx q a) (tx q b)
    simp only [List.nil_append] at this
    rw [this, if_pos ⟨rfl, rfl, rfl⟩]
    rfl
  · obtain ⟨l, x, rfl⟩ := snoc_of h
    rw [addP_snoc, addP_snoc]
    by_cases hx : x.k = 0 ∧ x.q = q
    · rw [if_pos ⟨rfl, hx.1, hx.2⟩, if_pos ⟨rfl, hx.1, hx.2⟩, addP_snoc, if_pos ⟨rfl, hx.1, hx.2⟩]
      simp only [Pt.t, Pt.k, Pt.q, Pt.n, Pt.o, Pt.w, tx, List.append_assoc]
    · rw [if_neg fun h => hx ⟨h.2.1, h.2.2⟩, if_neg fun h => hx ⟨h.2.1, h.2.2⟩, addP_snoc, if_pos ⟨rfl, rfl, rfl⟩]
      rfl
/-- No two texts side by side that would be one. -/
def Norm : List Pt → Prop
  | [] => True
  | [_] => True
  | a :: b :: r => ¬ Mg a b ∧ Norm (b :: r)
theorem Norm.tail {a : Pt} {r : List Pt} (h : Norm (a :: r)) : Norm r := by
  cases r with
  | nil => trivial
  | cons b r => exact h.2
theorem Norm.snoc : ∀ {l : List Pt} {x p : Pt}, Norm (l ++ [x]) → ¬ Mg x p → Norm (l ++ [x] ++ [p])
  | [], x, p, _, h => ⟨h, trivial⟩
  | [a], x, p, h, h2 => ⟨h.1, h2, trivial⟩
  | a :: b :: l, x, p, h, h2 => ⟨h.1, Norm.snoc (l := b :: l) h.2 h2⟩
theorem Norm.left : ∀ {l m : List Pt}, Norm (l ++ m) → Norm l
  | [], _, _ => trivial
  | [a], _, _ => trivial
  | a :: b :: l, m, h => ⟨h.1, Norm.left (l := b :: l) h.2⟩
theorem Norm.right : ∀ {l m : List Pt}, Norm (l ++ m) → Norm m
  | [], _, h => h
  | a :: l, m, h => Norm.right (l := l) (Norm.tail h)
theorem Norm.swap : ∀ {l : List Pt} {x y : Pt}, Norm (l ++ [x]) → x.k = y.k → x.q = y.q → Norm (l ++ [y])
  | [], x, y, _, _, _ => trivial
  | [a], x, y, h, h1, h2 => ⟨fun m => h.1 ⟨by rw [h1]; exact m.1, m.2.1, by rw [h2]; exact m.2.2⟩, trivial⟩
  | a :: b :: l, x, y, h, h1, h2 => ⟨h.1, Norm.swap (l := b :: l) h.2 h1 h2⟩
theorem Norm.add {l : List Pt} {p : Pt} (h : Norm l) : Norm (addP l p) := by
  by_cases hl : l = []
  · subst hl; trivial
  · obtain ⟨m, x, rfl⟩ := snoc_of hl
    rw [addP_snoc]
    split
    · exact h.swap rfl rfl
    · rename_i hn
      exact h.snoc hn
theorem Norm.fold : ∀ {l acc : List Pt}, Norm acc → Norm (l.foldl addP acc)
  | [], _, h => h
  | p :: l, _, h => Norm.fold (l := l) h.add
theorem Norm.edge {l : List Pt} {x p : Pt} {r : List Pt} (h : Norm (l ++ [x] ++ p :: r)) : ¬ Mg x p := by
  have : Norm ([x] ++ p :: r) := Norm.right (l := l) (by simpa using h)
  exact this.1
theorem fold_norm : ∀ {l acc : List Pt}, Norm (acc ++ l) → l.foldl addP acc = acc ++ l
  | [], acc, _ => (List.append_nil acc).symm
  | p :: l, acc, h => by
    have e : addP acc p = acc ++ [p] := by
      by_cases ha : acc = []
      · subst ha; rfl
      · obtain ⟨m, x, rfl⟩ := snoc_of ha
        rw [addP_snoc, if_neg (show ¬ (p.k = 0 ∧ x.k = 0 ∧ x.q = p.q) from Norm.edge h)]
    rw [List.foldl_cons, e]
    have := fold_norm (l := l) (acc := acc ++ [p]) (by simpa using h)
    rw [this]
    simp
theorem qdL_fold : ∀ (l acc : List Pt), qdL acc l = (l.map Pt.qd).foldl addP acc
  | [], _ => by simp [qdL]
  | p :: l, acc => by rw [qdL, qdL_fold l]; rfl
theorem qdL_norm {l acc : List Pt} (h : Norm acc) : Norm (qdL acc l) := by
  rw [qdL_fold]
  exact Norm.fold h
theorem Pt.qd_q (p : Pt) : p.qd.q = true := by cases p; rfl
theorem Pt.qd_k (p : Pt) : p.qd.k = p.k := by cases p; rfl
/-- What holds of each part, and of merged ones, holds of all that are added. -/
theorem all_add {V : Pt → Prop} (hm : ∀ x p : Pt, V x → V p → Mg x p → V (.mk x.k x.q (x.t ++ p.t) x.n x.o x.w)) {l : List Pt} {p : Pt} (hl : ∀ x ∈ l, V x) (hp : V p) : ∀ x ∈ addP l p, V x := by
  by_cases h : l = []
  · subst h
    intro x hx
    rw [addP_nil] at hx
    obtain rfl := List.mem_singleton.1 hx
    exact hp
  · obtain ⟨m, y, rfl⟩ := snoc_of h
    rw [addP_snoc]
    intro x hx
    split at hx
    · rename_i hg
      rcases List.mem_append.1 hx with hx | hx
      · exact hl x (List.mem_append_left _ hx)
      · obtain rfl := List.mem_singleton.1 hx
        exact hm y p (hl y (by simp)) hp hg
    · rcases List.mem_append.1 hx with hx | hx
      · exact hl x hx
      · obtain rfl := List.mem_singleton.1 hx
        exact hp
theorem all_fold {V : Pt → Prop} (hm : ∀ x p : Pt, V x → V p → Mg x p → V (.mk x.k x.q (x.t ++ p.t) x.n x.o x.w)) : ∀ {ps l : List Pt}, (∀ x ∈ l, V x) → (∀ p ∈ ps, V p) → ∀ x ∈ ps.foldl addP l, V x
  | [], l, h, _ => h
  | p :: ps, l, h, hp => all_fold hm (ps := ps) (all_add hm h (hp p (by simp))) fun x hx => hp x (by simp [hx])
theorem mem_size {p : Pt} {l : List Pt} (h : p ∈ l) : SizeOf.sizeOf p.w < SizeOf.sizeOf l := by
  have h1 := List.sizeOf_lt_of_mem h
  have h2 : SizeOf.sizeOf p.w < SizeOf.sizeOf p := by cases p; simp only [Pt.w, Pt.mk.sizeOf_spec]; omega
  omega
/-- What is quoted, quoted again, is the same. -/
theorem qd_twice : ∀ (n : Nat) (l : List Pt), SizeOf.sizeOf l < n → qdL [] (qdL [] l) = qdL [] l := by
  intro n
  induction n with
  | zero => intro l h; omega
  | succ n ih =>
    intro l hl
    have hone : ∀ x ∈ qdL [] l, x.qd = x := by
      rw [qdL_fold l []]
      refine all_fold (V := fun x => x.qd = x) ?_ (by simp) ?_
      · intro x p hx _ _
        cases x with
        | mk k q t a b c =>
          simp only [Pt.qd, Pt.mk.injEq] at hx
          simp only [Pt.k, Pt.q, Pt.t, Pt.n, Pt.o, Pt.w, Pt.qd, Pt.mk.injEq]
          exact ⟨trivial, hx.2.1, trivial, trivial, trivial, hx.2.2.2.2.2⟩
      · intro p hp
        obtain ⟨x, hx, rfl⟩ := List.mem_map.1 hp
        have := mem_size hx
        cases x with
        | mk k q t a b c =>
          simp only [Pt.qd]
          rw [ih c (by simpa [Pt.w] using Nat.lt_of_lt_of_le this (by omega))]
    have hmap : (qdL [] l).map Pt.qd = qdL [] l := by
      have : ∀ m : List Pt, (∀ x ∈ m, x.qd = x) → m.map Pt.qd = m := by
        intro m hm
        induction m with
        | nil => rfl
        | cons a m ih2 => rw [List.map_cons, hm a (by simp), ih2 fun x hx => hm x (by simp [hx])]
      exact this _ hone
    rw [qdL_fold (qdL [] l), hmap]
    have := fold_norm (l := qdL [] l) (acc := []) (by simpa using qdL_norm (l := l) (acc := []) trivial)
    simpa using this
theorem qd_again (l : List Pt) : qdL [] (qdL [] l) = qdL [] l := qd_twice _ l (Nat.lt_succ_self _)
theorem hasL_mem {l : List Pt} : hasL l = true ↔ ∃ p ∈ l, p.has = true := by
  induction l with
  | nil => simp [hasL]
  | cons a l ih => simp [hasL, ih]
end Go.Proofs.YtcoeiiihmpnagaaDoor
namespace Go.Proofs.YtcoeiiihmpnagaaDoor

mutual
def Pt.wt : Pt → Nat
  | .mk _ _ t n o w => 4 * t.length + n.length + o.length + 8 + wtL w
def wtL : List Pt → Nat
  | [] => 0
  | p :: r => p.wt + wtL r
end
theorem Pt.wt_eq (p : Pt) : p.wt = 4 * p.t.length + p.n.length + p.o.length + 8 + wtL p.w := by cases p; simp only [Pt.wt, Pt.t, Pt.n, Pt.o, Pt.w]
theorem wtL_append : ∀ a b : List Pt, wtL (a ++ b) = wtL a + wtL b
  | [], b => by simp [wtL]
  | p :: a, b => by simp only [List.cons_append, wtL, wtL_append a b]; omega
theorem wtL_one (p : Pt) : wtL [p] = p.wt := by simp [wtL]
theorem wtL_mem {p : Pt} : ∀ {l : List Pt}, p ∈ l → p.wt ≤ wtL l
  | a :: l, h => by
    rcases List.mem_cons.1 h with rfl | h
    · simp only [wtL]; omega
    · have := wtL_mem h
      simp only [wtL]; omega
theorem wtL_len : ∀ l : List Pt, 8 * l.length ≤ wtL l
  | [] => by simp
  | p :: l => by
    have h1 := wtL_len l
    have h2 := p.wt_eq
    simp only [wtL, List.length_cons]
    omega
theorem wt_add (l : List Pt) (p : Pt) : wtL (addP l p) ≤ wtL l + p.wt := by
  by_cases h : l = []
  · subst h
    rw [addP_nil]
    simp [wtL]
  · obtain ⟨m, x, rfl⟩ := snoc_of h
    rw [addP_snoc]
    split
    · have h1 := x.wt_eq
      have h2 := p.wt_eq
      simp only [wtL_append, wtL_one, Pt.wt, List.length_append]
      omega
    · simp only [wtL_append, wtL_one]
      omega
theorem wt_fold : ∀ (ps l : List Pt), wtL (ps.foldl addP l) ≤ wtL l + wtL ps
  | [], l => by simp [wtL]
  | p :: ps, l => by
    have h1 := wt_fold ps (addP l p)
    have h2 := wt_add l p
    simp only [List.foldl_cons, wtL]
    omega
mutual
theorem Pt.wt_qd : ∀ p : Pt, p.qd.wt ≤ p.wt
  | .mk k q t n o w => by
    have := wt_qdL w []
    simp only [Pt.qd, Pt.wt]
    simp only [wtL] at this
    omega
theorem wt_qdL : ∀ l acc : List Pt, wtL (qdL acc l) ≤ wtL acc + wtL l
  | [], acc => by simp [qdL, wtL]
  | p :: l, acc => by
    have h1 := wt_qdL l (addP acc p.qd)
    have h2 := wt_add acc p.qd
    have h3 := p.wt_qd
    simp only [qdL, wtL]
    omega
end
theorem single_len (t : Txt) : (single t).length ≤ 4 * t.length + 2 := by
  have : ∀ t : Txt, (t.flatMap fun b => if b = 39 then [39, 92, 39, 39] else [b]).length ≤ 4 * t.length := by
    intro t
    induction t with
    | nil => simp
    | cons a t ih =>
      rw [List.flatMap_cons, List.length_append, List.length_cons]
      split
      · simp only [List.length_cons, List.length_nil]; omega
      · simp only [List.length_cons, List.length_nil]; omega
  have := this t
  simp only [single, List.length_cons, List.length_append, List.length_nil]
  omega
mutual
theorem Pt.pr_len : ∀ p : Pt, p.pr.length ≤ p.wt
  | .mk k q t n o w => by
    have hw := prL_len w
    have hs := single_len t
    have hq : ∀ x : Txt, (wrapQ q x).length ≤ x.length + 2 := by
      intro x
      unfold wrapQ
      split
      · simp
      · omega
    simp only [Pt.pr, Pt.wt]
    split
    · split <;> omega
    · refine Nat.le_trans (hq _) ?_
      split
      · simp; omega
      · split
        · simp; omega
        · split
          · split
            · simp; omega
            · simp; omega
          · simp only [List.length_nil]; omega
theorem prL_len : ∀ l : List Pt, (prL l).length ≤ wtL l
  | [] => by simp [prL]
  | p :: l => by
    have h1 := p.pr_len
    have h2 := prL_len l
    simp only [prL, wtL, List.length_append]
    omega
end

/-! ### What is read -/
/-- What it takes bears what it gives. -/
def Bears (one : Txt → Rs (List Pt × Nat)) : Prop := ∀ s x, one s = .ok x → wtL x.1 ≤ 12 * x.2
def BearsL (P : Txt → Rs (List Pt)) : Prop := ∀ s l, P s = .ok l → wtL l ≤ 12 * s.length
theorem bracesF_wt {P : Txt → Rs (List Pt)} (hP : BearsL P) {q : Bool} {s : Txt} {p : Pt} (h : bracesF P q s = .ok p) : p.wt ≤ 12 * s.length + 12 := by
  unfold bracesF at h
  split at h
  · rename_i hc
    injection h with h
    rw [← h]
    simp only [Pt.wt, wtL, List.length_nil, List.length_drop, List.length_cons]
    omega
  · split at h
    · cases h
    · split at h
      · injection h with h
        have := paramN_le s
        rw [← h]
        simp only [Pt.wt, wtL, List.length_nil, List.length_take]
        omega
      · split at h
        · cases h
        · obtain ⟨w, h1, h⟩ := Rs.and_ok h
          split at h
          · cases h
          · injection h with h
            have h2 := hP _ _ h1
            have h3 := paramN_le s
            have h4 := opOf_len (s.drop (paramN s))
            have h5 := wt_qdL w []
            simp only [wtL] at h5
            rw [List.length_drop, List.length_drop] at h2
            rw [List.length_drop] at h4
            rw [← h]
            have h6 : wtL (if q = true then qdL [] w else w) ≤ wtL w := by
              split
              · omega
              · exact Nat.le_refl _
            simp only [Pt.wt, List.length_nil, List.length_take]
            omega
theorem dollarF_wt {P : Txt → Rs (List Pt)} (hP : BearsL P) {q : Bool} {r : Txt} {x : Pt × Nat} (h : dollarF P q (36 :: r) = .ok x) : x.1.wt ≤ 12 * x.2 := by
  unfold dollarF at h
  simp only [List.drop_succ_cons, List.drop_zero] at h
  split at h
  · split at h
    · cases h
    · rename_i t ht
      have hh : r.head? = some 40 ∨ r.head? = some 123 := by assumption
      have h1 : t.length + 3 ≤ (36 :: r).length := by
        obtain ⟨c, r2, rfl⟩ : ∃ c r2, r = c :: r2 := by
          cases r with
          | nil => rcases hh with e | e <;> cases e
          | cons c r2 => exact ⟨c, r2, rfl⟩
        rcases hh with e | e
        · obtain rfl : c = 40 := by simpa using e
          have ht : untilD 29 41 r2 = some t := ht
          have := untilD_takes _ _ _ _ ht
          simp only [List.length_cons]; omega
        · obtain rfl : c = 123 := by simpa using e
          have ht : untilD 29 125 r2 = some t := ht
          have := untilD_takes _ _ _ _ ht
          simp only [List.length_cons]; omega
      split at h
      · obtain ⟨p, h2, h⟩ := Rs.and_ok h
        injection h with h
        have h3 := bracesF_wt hP h2
        rw [List.length_take] at h3
        rw [← h]
        dsimp only
        omega
      · split at h
        · injection h with h
          rw [← h]
          simp only [Pt.wt, wtL, List.length_nil, List.length_take]
          omega
        · injection h with h
          rw [← h]
          simp only [Pt.wt, wtL, List.length_nil, List.length_take]
          omega
  · split at h
    · injection h with h
      have := nameN_le r
      rw [← h]
      simp only [Pt.wt, wtL, List.length_nil, List.length_take]
      omega
    · split at h
      · injection h with h
        rw [← h]
        simp only [Pt.wt, wtL, List.length_nil, List.length_take]
        omega
      · injection h with h
        rw [← h]
        simp [Pt.wt, wtL]
theorem tx_wt (q : Bool) (t : Txt) : (tx q t).wt = 4 * t.length + 8 := by simp [tx, Pt.wt, wtL]
theorem loopF_wt {one : Txt → Rs (List Pt × Nat)} (ht : Takes1 one) (hb : Bears one) : ∀ (n : Nat) (acc : List Pt) (s : Txt) (l : List Pt), loopF one n acc s = .ok l → wtL l ≤ wtL acc + 12 * s.length
  | 0, _, _, _, h => by cases h
  | n + 1, acc, [], l, h => by
    injection h with h
    rw [h]
    exact Nat.le_add_right _ _
  | n + 1, acc, c :: r, l, h => by
    simp only [loopF] at h
    obtain ⟨x, h1, h⟩ := Rs.and_ok h
    have h2 := ht _ _ h1
    have h3 := loopF_wt ht hb n _ _ _ h
    have h4 := wt_fold x.1 acc
    have h5 := hb _ _ h1
    rw [List.length_drop] at h3
    omega
theorem dblOne_bears {P : Txt → Rs (List Pt)} (hP : BearsL P) : Bears (dblOne P) := by
  intro s x h
  cases s with
  | nil => cases h
  | cons c r =>
    simp only [dblOne] at h
    split at h
    · rename_i hc
      subst hc
      obtain ⟨y, h1, h⟩ := Rs.and_ok h
      injection h with h
      have := dollarF_wt hP h1
      rw [← h]
      simpa [wtL] using this
    · split at h
      · injection h with h
        rw [← h]
        simp only [wtL, tx_wt, List.length_take]
        omega
      · injection h with h
        rw [← h]
        simp [wtL, tx_wt]
theorem dblF_wt {P : Txt → Rs (List Pt)} (hP : BearsL P) {s : Txt} {l : List Pt} (h : dblF P s = .ok l) : wtL l ≤ 12 * s.length + 8 := by
  unfold dblF at h
  split at h
  · injection h with h
    rw [← h]
    simp [wtL, tx_wt]
  · have := loopF_wt (dblOne_takes P) (dblOne_bears hP) _ _ _ _ h
    simp only [wtL] at this
    omega
theorem quote_len {c : UInt8} {r t : Txt} (hc : c = 39 ∨ c = 34) (h : unitD 30 (c :: r) = some t) : t.length + 1 ≤ r.length := by
  rcases hc with rfl | rfl
  · have : quoteEnd r = some t := h
    have := quoteEnd_length this
    omega
  · have : untilD 29 34 r = some t := h
    have := untilD_takes 29 34 _ _ this
    omega
theorem outOne_bears {P : Txt → Rs (List Pt)} (hP : BearsL P) : Bears (outOne P) := by
  intro s x h
  cases s with
  | nil => cases h
  | cons c r =>
    simp only [outOne] at h
    split at h
    · rename_i hc
      subst hc
      obtain ⟨y, h1, h⟩ := Rs.and_ok h
      injection h with h
      have := dollarF_wt hP h1
      rw [← h]
      simpa [wtL] using this
    · split at h
      · split at h
        · cases h
        · rename_i hc t ht
          split at h
          · injection h with h
            rw [← h]
            simp only [wtL, tx_wt, List.length_take]
            omega
          · rename_i h92
            have hq := quote_len (Or.resolve_left (by assumption) h92) ht
            split at h
            · obtain ⟨l, h3, h⟩ := Rs.and_ok h
              injection h with h
              have h4 := dblF_wt hP h3
              rw [List.length_take] at h4
              rw [← h]
              dsimp only
              omega
            · injection h with h
              rw [← h]
              simp only [wtL, tx_wt, List.length_take]
              omega
      · injection h with h
        rw [← h]
        simp [wtL, tx_wt]
theorem wpL_wt : ∀ L : Nat, BearsL (wpL L)
  | 0 => fun s l h => by cases h
  | L + 1 => fun s l h => by
    have := loopF_wt (outOne_takes _) (outOne_bears (wpL_wt L)) _ _ _ _ h
    simpa [wtL] using this
end Go.Proofs.YtcoeiiihmpnagaaDoor
namespace Go.Proofs.YtcoeiiihmpnagaaDoor
open Go.RowKit Vc

theorem unit_few : ∀ n : Nat, (∀ D d s t, s.length ≤ n → unitD D s = some t → s.length ≤ t.length + 2 * d → unitD d s = some t) ∧ (∀ D d e s t, s.length ≤ n → untilD D e s = some t → s.length ≤ t.length + 2 * d + 1 → untilD d e s = some t) := by
  intro n
  induction n with
  | zero =>
    refine ⟨fun D d s t hs h _ => ?_, fun D d e s t hs h _ => ?_⟩
    · have := unitD_takes D _ _ h
      omega
    · have := untilD_takes D e _ _ h
      omega
  | succ n ih =>
    have hu : ∀ D d s t, s.length ≤ n + 1 → unitD D s = some t → s.length ≤ t.length + 2 * d → unitD d s = some t := by
      intro D d s t hs h hd
      have hlt := unitD_takes D _ _ h
      obtain ⟨d, rfl⟩ : ∃ k, d = k + 1 := ⟨d - 1, by omega⟩
      cases D with
      | zero => cases h
      | succ D =>
        have h : unitF (untilD D) s = some t := h
        show unitF (untilD d) s = some t
        cases s with
        | nil => cases h
        | cons a r =>
          simp only [List.length_cons] at hs hd hlt
          have sub : ∀ e x, x.length ≤ r.length → untilD D e x = some t → untilD d e x = some t := fun e x hx h => ih.2 D d e x t (by omega) h (by omega)
          simp only [unitF] at h ⊢
          split
          · rename_i h92
            rw [if_pos h92] at h
            exact h
          · rename_i h92
            rw [if_neg h92] at h
            split
            · rename_i h39
              rw [if_pos h39] at h
              exact h
            · rename_i h39
              rw [if_neg h39] at h
              split
              · rename_i h34
                rw [if_pos h34] at h
                exact sub _ _ (Nat.le_refl _) h
              · rename_i h34
                rw [if_neg h34] at h
                cases r with
                | nil => exact h
                | cons b y =>
                  simp only [dollar] at h ⊢
                  split
                  · rename_i h40
                    rw [if_pos h40] at h
                    exact sub _ _ (by simp) h
                  · rename_i h40
                    rw [if_neg h40] at h
                    split
                    · rename_i h123
                      rw [if_pos h123] at h
                      exact sub _ _ (by simp) h
                    · rename_i h123
                      rw [if_neg h123] at h
                      exact h
    refine ⟨hu, fun D d e s t hs h hd => ?_⟩
    cases s with
    | nil => rw [untilD_nil] at h; cases h
    | cons c r =>
      simp only [List.length_cons] at hs hd
      rw [untilD_cons] at h ⊢
      by_cases hce : c = e
      · rw [if_pos hce] at h ⊢
        exact h
      · rw [if_neg hce] at h ⊢
        by_cases h39 : e = 34 ∧ c = 39
        · rw [if_pos h39] at h ⊢
          by_cases hD : D = 0
          · rw [if_pos hD] at h; cases h
          · rw [if_neg hD] at h
            have := untilD_takes D e _ _ h
            rw [if_neg (by omega)]
            exact ih.2 D d e r t (by omega) h (by omega)
        · rw [if_neg h39] at h ⊢
          by_cases h40 : e = 41 ∧ c = 40
          · rw [if_pos h40] at h ⊢
            by_cases hD : D = 0
            · rw [if_pos hD] at h; cases h
            · rw [if_neg hD] at h
              obtain ⟨u, h1, h2⟩ := Option.bind_eq_some_iff.1 h
              have k1 := untilD_takes _ _ _ _ h1
              have k2 := untilD_takes _ _ _ _ h2
              rw [if_neg (by omega)]
              rw [ih.2 (D - 1) (d - 1) 41 r u (by omega) h1 (by omega)]
              exact ih.2 D d e u t (by omega) h2 (by omega)
          · rw [if_neg h40] at h ⊢
            obtain ⟨u, h1, h2⟩ := Option.bind_eq_some_iff.1 h
            have k1 := unitD_takes _ _ _ h1
            have k2 := untilD_takes _ _ _ _ h2
            simp only [List.length_cons] at k1
            rw [hu D d (c :: r) u (by simpa using hs) h1 (by simp only [List.length_cons]; omega)]
            exact ih.2 D d e u t (by omega) h2 (by omega)
theorem unitD_few {D d : Nat} {s t : Txt} (h : unitD D s = some t) (hd : s.length ≤ t.length + 2 * d) : unitD d s = some t := (unit_few s.length).1 D d s t (Nat.le_refl _) h hd
theorem untilD_few {D d : Nat} {e : UInt8} {s t : Txt} (h : untilD D e s = some t) (hd : s.length ≤ t.length + 2 * d + 1) : untilD d e s = some t := (unit_few s.length).2 D d e s t (Nat.le_refl _) h hd
/-- t' begins with a bracket only where t does. -/
def Sim (t t' : Txt) : Prop := ∀ c r', t' = c :: r' → (c = 40 ∨ c = 123) → ∃ r, t = c :: r
theorem Sim.head (c : UInt8) (t t' : Txt) : Sim (c :: t) (c :: t') := fun d r' h _ => ⟨t, by injection h with h1 h2; rw [h1]⟩
theorem Sim.app {t t' : Txt} (h : Sim t t') : ∀ y : Txt, Sim (y ++ t) (y ++ t')
  | [] => h
  | c :: y => Sim.head c _ _
def LU (f : Txt → Option Txt) : Prop := ∀ p t t', Sim t t' → f (p ++ t) = some t → f (p ++ t') = some t'
def LT (f : Txt → Option Txt) : Prop := ∀ p t t', f (p ++ t) = some t → f (p ++ t') = some t'
theorem no_take {f : Txt → Option Txt} (hf : Takes f) {t : Txt} {A : Prop} (h : f t = some t) : A := absurd (hf _ _ h) (Nat.lt_irrefl _)
theorem app_nil {p t : Txt} (h : p ++ t = t) : p = [] := by
  have := congrArg List.length h
  rw [List.length_append] at this
  exact List.eq_nil_of_length_eq_zero (by omega)
theorem split_of {p t x : Txt} (h : t <:+ x) (hx : x <:+ p ++ t) : ∃ z y, x = y ++ t ∧ p = z ++ y := by
  obtain ⟨y, rfl⟩ := h
  obtain ⟨z, hz⟩ := hx
  rw [← List.append_assoc] at hz
  exact ⟨z, y, rfl, (List.append_cancel_right hz).symm⟩
theorem quoteEnd_loc : LT quoteEnd
  | [], t, t', h => no_take (fun _ _ => quoteEnd_length) h
  | a :: p, t, t', h => by
    simp only [List.cons_append, quoteEnd] at h ⊢
    split at h
    · rename_i ha
      rw [if_pos ha, app_nil (Option.some.inj h)]
      rfl
    · rename_i ha
      rw [if_neg ha]
      exact quoteEnd_loc p t t' h
theorem unitF_loc {v : UInt8 → Txt → Option Txt} (hv : ∀ e, LT (v e)) (hk : ∀ e, Takes (v e)) : LU (unitF v) := by
  intro p t t' hs h
  cases p with
  | nil => exact no_take (unitF_takes hk) h
  | cons a p =>
    simp only [List.cons_append, unitF] at h ⊢
    by_cases h92 : a = 92
    · rw [if_pos h92] at h ⊢
      cases p with
      | nil =>
        cases t with
        | nil => cases h
        | cons b t =>
          have h : t = b :: t := Option.some.inj h
          have := congrArg List.length h
          simp at this
      | cons b p =>
        have h : p ++ t = t := Option.some.inj h
        rw [app_nil h]
        rfl
    · rw [if_neg h92] at h ⊢
      by_cases h39 : a = 39
      · rw [if_pos h39] at h ⊢
        exact quoteEnd_loc _ _ _ h
      · rw [if_neg h39] at h ⊢
        by_cases h34 : a = 34
        · rw [if_pos h34] at h ⊢
          exact hv _ _ _ _ h
        · rw [if_neg h34] at h ⊢
          cases p with
          | nil =>
            cases t' with
            | nil => rfl
            | cons c r' =>
              simp only [List.nil_append, dollar]
              have hno : ∀ k, k = 40 ∨ k = 123 → ¬ (a = 36 ∧ c = k) := by
                rintro k hk' ⟨rfl, rfl⟩
                obtain ⟨r, rfl⟩ := hs c r' rfl hk'
                rcases hk' with rfl | rfl
                · have h : v 41 r = some (40 :: r) := h
                  have := hk _ _ _ h
                  simp at this
                  omega
                · have h : v 125 r = some (123 :: r) := h
                  have := hk _ _ _ h
                  simp at this
                  omega
              rw [if_neg (hno 40 (.inl rfl)), if_neg (hno 123 (.inr rfl))]
          | cons b p =>
            simp only [List.cons_append, dollar] at h ⊢
            by_cases h40 : a = 36 ∧ b = 40
            · rw [if_pos h40] at h ⊢
              exact hv _ _ _ _ h
            · rw [if_neg h40] at h ⊢
              by_cases h123 : a = 36 ∧ b = 123
              · rw [if_pos h123] at h ⊢
                exact hv _ _ _ _ h
              · rw [if_neg h123] at h ⊢
                have := congrArg List.length (Option.some.inj h)
                simp at this
                omega
theorem until_loc {d : Nat} {e : UInt8} (hu : LU (unitD d)) (hq : d ≠ 0 → LT (untilD (d - 1) 41)) : ∀ (n : Nat) (p : Txt), p.length ≤ n → ∀ t t', untilD d e (p ++ t) = some t → untilD d e (p ++ t') = some t'
  | _, [], _, t, t', h => no_take (untilD_takes d e) h
  | 0, a :: p, hn, t, t', h => absurd hn (by simp)
  | n + 1, a :: p, hn, t, t', h => by
    have ih := until_loc (e := e) hu hq n
    simp only [List.length_cons] at hn
    rw [List.cons_append, untilD_cons] at h ⊢
    by_cases hae : a = e
    · rw [if_pos hae] at h ⊢
      rw [app_nil (Option.some.inj h)]
      rfl
    · rw [if_neg hae] at h ⊢
      -- what goes on
      have on : ∀ {f : Txt → Option Txt} (q : Txt), q.length ≤ n + 1 → Ends f → Takes f → (∀ z y : Txt, q = z ++ y → y ≠ [] → f (z ++ (y ++ t)) = some (y ++ t) → f (z ++ (y ++ t')) = some (y ++ t')) → (f (q ++ t)).bind (untilD d e) = some t → (f (q ++ t')).bind (untilD d e) = some t' := by
        intro f q hq he ht hf h
        obtain ⟨x, hx, hx2⟩ := Option.bind_eq_some_iff.1 h
        obtain ⟨z, y, rfl, rfl⟩ := split_of (untilD_ends d e _ _ hx2) (he _ _ hx)
        have hlen := ht _ _ hx
        have hlen2 := untilD_takes d e _ _ hx2
        have hy : y ≠ [] := by
          rintro rfl
          simp at hlen2
        rw [List.append_assoc] at hx ⊢
        rw [hf z y rfl hy hx]
        simp only [List.length_append] at hlen hq
        exact ih y (by omega) t t' hx2
      by_cases h39 : e = 34 ∧ a = 39
      · rw [if_pos h39] at h ⊢
        by_cases hd : d = 0
        · rw [if_pos hd] at h; cases h
        · rw [if_neg hd] at h ⊢
          exact ih p (by omega) t t' h
      · rw [if_neg h39] at h ⊢
        by_cases h40 : e = 41 ∧ a = 40
        · rw [if_pos h40] at h ⊢
          by_cases hd : d = 0
          · rw [if_pos hd] at h; cases h
          · rw [if_neg hd] at h ⊢
            exact on p (by omega) (untilD_ends _ _) (untilD_takes _ _) (fun z y _ _ hf => hq hd _ _ _ hf) h
        · rw [if_neg h40] at h ⊢
          exact on (a :: p) hn (unitD_ends _) (unitD_takes _) (fun z y _ hy hf => hu _ _ _ (by
            obtain ⟨c, y, rfl⟩ := List.exists_cons_of_ne_nil hy
            exact Sim.head c _ _) hf) h
theorem lev_loc : ∀ d, LU (unitD d) ∧ ∀ e, LT (untilD d e)
  | 0 => by
    have h0 : LU (unitD 0) := fun p t t' _ h => by cases h
    exact ⟨h0, fun e p t t' h => until_loc h0 (fun h => absurd rfl h) _ p (Nat.le_refl _) t t' h⟩
  | d + 1 => by
    have ih := (lev_loc d).2
    have hu : LU (unitD (d + 1)) := unitF_loc ih (untilD_takes d)
    exact ⟨hu, fun e p t t' h => until_loc hu (fun _ => ih 41) _ p (Nat.le_refl _) t t' h⟩
end Go.Proofs.YtcoeiiihmpnagaaDoor
namespace Go.Proofs.YtcoeiiihmpnagaaDoor

def wtW : List (List Pt) → Nat
  | [] => 0
  | x :: r => 2 + wtL x + wtW r
def wtP : List (Txt × List Pt) → Nat
  | [] => 0
  | x :: r => 2 + x.1.length + wtL x.2 + wtP r
def wtO : List Txt → Nat
  | [] => 0
  | x :: r => 2 + x.length + wtO r
mutual
def Nd.wt : Nd → Nat
  | .mk _ _ nm ws as rs os ks => 2 + nm.length + wtW ws + wtP as + wtP rs + wtO os + wtNs ks
def wtNs : List Nd → Nat
  | [] => 0
  | x :: r => x.wt + wtNs r
end
theorem Nd.wt_eq (x : Nd) : x.wt = 2 + x.nm.length + wtW x.ws + wtP x.as + wtP x.rs + wtO x.os + wtNs x.ks := by cases x; simp only [Nd.wt, Nd.nm, Nd.ws, Nd.as, Nd.rs, Nd.os, Nd.ks]
theorem wtW_append : ∀ a b, wtW (a ++ b) = wtW a + wtW b
  | [], b => by simp [wtW]
  | x :: a, b => by simp only [List.cons_append, wtW, wtW_append a b]; omega
theorem wtP_append : ∀ a b, wtP (a ++ b) = wtP a + wtP b
  | [], b => by simp [wtP]
  | x :: a, b => by simp only [List.cons_append, wtP, wtP_append a b]; omega
theorem wtO_append : ∀ a b, wtO (a ++ b) = wtO a + wtO b
  | [], b => by simp [wtO]
  | x :: a, b => by simp only [List.cons_append, wtO, wtO_append a b]; omega
theorem wtNs_append : ∀ a b, wtNs (a ++ b) = wtNs a + wtNs b
  | [], b => by simp [wtNs]
  | x :: a, b => by simp only [List.cons_append, wtNs, wtNs_append a b]; omega
theorem wtW_len : ∀ l, 2 * l.length ≤ wtW l
  | [] => by simp
  | x :: l => by have := wtW_len l; simp only [wtW, List.length_cons]; omega
theorem wtP_len : ∀ l, 2 * l.length ≤ wtP l
  | [] => by simp
  | x :: l => by have := wtP_len l; simp only [wtP, List.length_cons]; omega
theorem wtO_len : ∀ l, 2 * l.length ≤ wtO l
  | [] => by simp
  | x :: l => by have := wtO_len l; simp only [wtO, List.length_cons]; omega
theorem wtNs_len : ∀ l, 2 * l.length ≤ wtNs l
  | [] => by simp
  | x :: l => by have := wtNs_len l; have := x.wt_eq; simp only [wtNs, List.length_cons]; omega
theorem wtW_mem {x : List Pt} : ∀ {l}, x ∈ l → 2 + wtL x ≤ wtW l
  | a :: l, h => by
    rcases List.mem_cons.1 h with rfl | h
    · simp only [wtW]; omega
    · have := wtW_mem h; simp only [wtW]; omega
theorem wtP_mem {x : Txt × List Pt} : ∀ {l}, x ∈ l → 2 + x.1.length + wtL x.2 ≤ wtP l
  | a :: l, h => by
    rcases List.mem_cons.1 h with rfl | h
    · simp only [wtP]; omega
    · have := wtP_mem h; simp only [wtP]; omega
theorem wtO_mem {x : Txt} : ∀ {l}, x ∈ l → 2 + x.length ≤ wtO l
  | a :: l, h => by
    rcases List.mem_cons.1 h with rfl | h
    · simp only [wtO]; omega
    · have := wtO_mem h; simp only [wtO]; omega
theorem wtNs_mem {x : Nd} : ∀ {l}, x ∈ l → x.wt ≤ wtNs l
  | a :: l, h => by
    rcases List.mem_cons.1 h with rfl | h
    · simp only [wtNs]; omega
    · have := wtNs_mem h; simp only [wtNs]; omega

/-- The tokens' bulk. -/
def tw : Ts → Nat
  | [] => 0
  | x :: r => 20 + 20 * x.2.length + tw r
theorem tw_suf : ∀ {s t : Ts}, t <:+ s → tw t ≤ tw s
  | [], t, h => by rw [List.suffix_nil.1 h]; exact Nat.le_refl _
  | x :: s, t, h => by
    rcases List.suffix_cons_iff.1 h with rfl | h
    · exact Nat.le_refl _
    · have := tw_suf h; simp only [tw]; omega
theorem tw_lines (s : Ts) : tw (linesF s) ≤ tw s := tw_suf (linesF_suf s)
theorem tw_tail (s : Ts) : tw s.tail ≤ tw s := tw_suf (tail_suf s)
theorem tw_is {k : Nat} {t : Txt} {s : Ts} (h : isT k t s = true) : tw s.tail + 20 + 20 * t.length = tw s := by
  have e := congrArg tw (isT_cons h)
  simp only [tw] at e
  omega
theorem tw_ite (c : Bool) (s : Ts) : tw (if c = true then s.tail else s) ≤ tw s := tw_suf (ite_suf c s)
/-- What is told weighs less than what is taken, by so much. -/
def Wt {α : Type} (m : α → Nat) (d : Nat) (f : Pr α) : Prop := ∀ s x, f s = .ok x → m x.1 + d + tw x.2 ≤ tw s
def WtS {σ α : Type} (m : σ → Nat) (q : α → Nat) (step : σ → Ts → Rs ((σ × Ts) ⊕ (α × Ts))) : Prop := ∀ a s x, step a s = .ok x → match x with
  | .inl y => m y.1 + tw y.2 ≤ m a + tw s
  | .inr y => q y.1 + tw y.2 ≤ m a + tw s
theorem many_wt {σ α : Type} {m : σ → Nat} {q : α → Nat} {step : σ → Ts → Rs ((σ × Ts) ⊕ (α × Ts))} (hs : WtS m q step) : ∀ (n : Nat) (a : σ) (s : Ts) (x : α × Ts), many step n a s = .ok x → q x.1 + tw x.2 ≤ m a + tw s
  | 0, _, _, _, h => by cases h
  | n + 1, a, s, x, h => by
    simp only [many] at h
    obtain ⟨y, h1, h⟩ := Rs.and_ok h
    have h3 := hs _ _ _ h1
    cases y with
    | inr y =>
      injection h with h
      subst h
      exact h3
    | inl y =>
      have h3 : m y.1 + tw y.2 ≤ m a + tw s := h3
      have := many_wt hs n _ _ _ h
      omega
theorem manyF_wt {σ α : Type} {m : σ → Nat} {q : α → Nat} {step : σ → Ts → Rs ((σ × Ts) ⊕ (α × Ts))} (hs : WtS m q step) {a : σ} {s : Ts} {x : α × Ts} (h : manyF step a s = .ok x) : q x.1 + tw x.2 ≤ m a + tw s := many_wt hs _ _ _ _ h
theorem partsF_wt : Wt wtL 20 partsF := by
  intro s x h
  match s with
  | [] => cases h
  | (k, t) :: r =>
    simp only [partsF] at h
    split at h
    · obtain ⟨l, h1, h⟩ := Rs.and_ok h
      injection h with h
      subst h
      have := wpL_wt 30 t l h1
      simp only [tw]
      omega
    · cases h
theorem redirF_wt : Wt (fun x => 2 + x.1.length + wtL x.2) 20 redirF := by
  intro s x h
  match s with
  | [] => cases h
  | (k, t) :: r =>
    simp only [redirF] at h
    obtain ⟨l, h1, h⟩ := Rs.and_ok h
    injection h with h
    subst h
    have := partsF_wt _ _ h1
    simp only [tw]
    omega
theorem redirsS_wt : WtS wtP wtP redirsS := by
  intro a s x h
  unfold redirsS at h
  split at h
  · obtain ⟨l, h1, h⟩ := Rs.and_ok h
    injection h with h
    subst h
    have := redirF_wt _ _ h1
    dsimp only at this
    show wtP (a ++ [l.1]) + _ ≤ _
    simp only [wtP_append, wtP]
    omega
  · injection h with h
    subst h
    exact Nat.le_refl _
theorem asgF_len {t : Txt} {y : Txt × Txt} (h : asgF t = some y) : y.1.length + y.2.length ≤ t.length := by
  unfold asgF at h
  split at h
  · injection h with h
    subst h
    simp only [List.length_take, List.length_drop]
    omega
  · cases h
theorem simpleS_wt : WtS (fun a => wtW a.1 + wtP a.2.1 + wtP a.2.2) (fun x : Nd => x.wt - 2) simpleS := by
  intro a s x h
  unfold simpleS at h
  split at h
  · obtain ⟨l, h1, h⟩ := Rs.and_ok h
    injection h with h
    subst h
    have := redirF_wt _ _ h1
    dsimp only at this
    show wtW a.1 + wtP a.2.1 + wtP (a.2.2 ++ [l.1]) + tw l.2 ≤ _
    simp only [wtP_append, wtP]
    omega
  · split at h
    · rename_i k t r _
      split at h
      · split at h
        · rename_i y hy
          obtain ⟨l, h1, h⟩ := Rs.and_ok h
          injection h with h
          subst h
          have h2 := wpL_wt 30 _ l h1
          have h3 : y.1.length + y.2.length ≤ t.length := by
            split at hy
            · exact asgF_len hy
            · cases hy
          show wtW a.1 + wtP (a.2.1 ++ [(y.1, l)]) + wtP a.2.2 + tw r ≤ _
          simp only [wtP_append, wtP, tw]
          omega
        · obtain ⟨l, h1, h⟩ := Rs.and_ok h
          injection h with h
          subst h
          have h2 := wpL_wt 30 _ l h1
          show wtW (a.1 ++ [l]) + wtP a.2.1 + wtP a.2.2 + tw r ≤ _
          simp only [wtW_append, wtW, tw]
          omega
      · split at h
        · cases h
        · injection h with h
          subst h
          show Nd.wt _ - 2 + tw ((k, t) :: r) ≤ _
          simp only [Nd.wt, wtO, wtNs, List.length_nil]
          omega
    · split at h
      · cases h
      · injection h with h
        subst h
        show Nd.wt _ - 2 + tw [] ≤ _
        simp only [Nd.wt, wtO, wtNs, List.length_nil]
        omega
/-- A step that takes something. -/
theorem simple_first {a : List (List Pt) × List (Txt × List Pt) × List (Txt × List Pt)} {s : Ts} {x : Nd × Ts} (h : manyF simpleS ([], [], []) s = .ok x) : x.1.wt + 16 + tw x.2 ≤ tw s := by
  rw [manyF_step simpleS_sinks] at h
  obtain ⟨y, h1, h⟩ := Rs.and_ok h
  have h0 := simpleS_wt _ _ _ h1
  cases y with
  | inr y =>
    exfalso
    unfold simpleS at h1
    split at h1
    · obtain ⟨l, _, h1⟩ := Rs.and_ok h1
      cases h1
    · split at h1
      · split at h1
        · split at h1 <;> (obtain ⟨l, _, h1⟩ := Rs.and_ok h1; cases h1)
        · simp at h1
      · simp at h1
  | inl y =>
    have h2 := manyF_wt simpleS_wt h
    have h3 : wtW y.1.1 + wtP y.1.2.1 + wtP y.1.2.2 + 18 + tw y.2 ≤ tw s := by
      unfold simpleS at h1
      split at h1
      · obtain ⟨l, g1, h1⟩ := Rs.and_ok h1
        injection h1 with h1
        injection h1 with h1
        subst h1
        have := redirF_wt _ _ g1
        dsimp only at this
        simp only [List.nil_append, wtP, wtW]
        omega
      · split at h1
        · split at h1
          · split at h1
            · rename_i k t r _ _ _ z hz
              obtain ⟨l, g1, h1⟩ := Rs.and_ok h1
              injection h1 with h1
              injection h1 with h1
              subst h1
              have g2 := wpL_wt 30 _ l g1
              have g3 : z.1.length + z.2.length ≤ t.length := by
                split at hz
                · exact asgF_len hz
                · cases hz
              simp only [List.nil_append, wtP, wtW, tw]
              omega
            · obtain ⟨l, g1, h1⟩ := Rs.and_ok h1
              injection h1 with h1
              injection h1 with h1
              subst h1
              have g2 := wpL_wt 30 _ l g1
              simp only [List.nil_append, wtP, wtW, tw]
              omega
          · split at h1
            · cases h1
            · injection h1 with h1
              cases h1
        · split at h1
          · cases h1
          · injection h1 with h1
            cases h1
    have h4 := x.1.wt_eq
    omega
theorem simpleF_wt : Wt Nd.wt 16 simpleF := fun s x h => simple_first (a := ([], [], [])) h
theorem pipeN_wt (neg : Bool) (ks : List Nd) : (pipeN neg ks).wt ≤ 2 + wtNs ks := by
  unfold pipeN
  split
  · split
    · simp only [Nd.wt, wtW, wtP, wtO, wtNs, List.length_nil]; omega
    · simp only [wtNs]; omega
  · simp only [Nd.wt, wtW, wtP, wtO, List.length_nil]; omega
theorem pipeS_wt {cmd : Pr Nd} (hc : Wt Nd.wt 16 cmd) (neg : Bool) : WtS wtNs (fun x => x.wt - 2) (pipeS cmd neg) := by
  intro a s x h
  unfold pipeS at h
  split at h
  · rename_i hp
    obtain ⟨l, h1, h⟩ := Rs.and_ok h
    injection h with h
    subst h
    have h2 := hc _ _ h1
    have h3 := tw_lines s.tail
    have h4 := tw_tail s
    show wtNs (a ++ [l.1]) + tw l.2 ≤ _
    simp only [wtNs_append, wtNs]
    omega
  · injection h with h
    subst h
    have := pipeN_wt neg a
    show (pipeN neg a).wt - 2 + tw s ≤ _
    omega
theorem pipeF_wt {cmd : Pr Nd} (hc : Wt Nd.wt 16 cmd) : Wt Nd.wt 14 (pipeF cmd) := by
  intro s x h
  obtain ⟨y, h1, h⟩ := Rs.and_ok h
  have h2 := hc _ _ h1
  have h3 := manyF_wt (pipeS_wt hc _) h
  have h4 := tw_ite (isT 0 tBang s) s
  have h5 := x.1.wt_eq
  simp only [wtNs] at h3
  omega
theorem andN_wt (os : List Txt) (ks : List Nd) : (andN os ks).wt ≤ 2 + wtO os + wtNs ks := by
  unfold andN
  split
  · split
    · simp only [wtNs]; omega
    · simp only [Nd.wt, wtW, wtP, wtO, List.length_nil]; omega
  · simp only [Nd.wt, wtW, wtP, List.length_nil]; omega
theorem andS_wt {cmd : Pr Nd} (hc : Wt Nd.wt 16 cmd) : WtS (fun a => wtO a.1 + wtNs a.2) (fun x => x.wt - 2) (andS cmd) := by
  intro a s x h
  unfold andS at h
  split at h
  · rename_i k t r
    split at h
    · obtain ⟨l, h1, h⟩ := Rs.and_ok h
      injection h with h
      subst h
      have h2 := pipeF_wt hc _ _ h1
      have h3 := tw_lines r
      show wtO (a.1 ++ [t]) + wtNs (a.2 ++ [l.1]) + tw l.2 ≤ _
      simp only [wtNs_append, wtO_append, wtNs, wtO, tw]
      omega
    · injection h with h
      subst h
      have := andN_wt a.1 a.2
      show (andN a.1 a.2).wt - 2 + tw _ ≤ wtO a.1 + wtNs a.2 + tw _
      dsimp only
      omega
  · injection h with h
    subst h
    have := andN_wt a.1 a.2
    show (andN a.1 a.2).wt - 2 + tw _ ≤ wtO a.1 + wtNs a.2 + tw _
    dsimp only
    omega
theorem andF_wt {cmd : Pr Nd} (hc : Wt Nd.wt 16 cmd) : Wt Nd.wt 12 (andF cmd) := by
  intro s x h
  obtain ⟨y, h1, h⟩ := Rs.and_ok h
  have h2 := pipeF_wt hc _ _ h1
  have h3 := manyF_wt (andS_wt hc) h
  have h5 := x.1.wt_eq
  simp only [wtNs, wtO] at h3
  omega
theorem listN_wt (ks : List Nd) : (listN ks).wt = 2 + wtNs ks := by
  unfold listN
  simp only [Nd.wt, wtW, wtP, wtO, List.length_nil]
theorem listS_wt {cmd : Pr Nd} (hc : Wt Nd.wt 16 cmd) : WtS wtNs (fun x => x.wt - 2) (listS cmd) := by
  intro a s x h
  unfold listS at h
  split at h
  · injection h with h
    subst h
    have := listN_wt a
    show (listN a).wt - 2 + tw s ≤ _
    omega
  · obtain ⟨y, h1, h⟩ := Rs.and_ok h
    have h2 := andF_wt hc _ _ h1
    have h3 := tw_lines y.2
    have h4 := tw_lines y.2.tail
    have h5 := tw_tail y.2
    split at h
    · injection h with h
      subst h
      show wtNs (a ++ [y.1]) + tw (linesF y.2.tail) ≤ _
      simp only [wtNs_append, wtNs]
      omega
    · split at h
      · injection h with h
        subst h
        show wtNs (a ++ [y.1]) + tw (linesF y.2) ≤ _
        simp only [wtNs_append, wtNs]
        omega
      · injection h with h
        subst h
        have := listN_wt (a ++ [y.1])
        show (listN (a ++ [y.1])).wt - 2 + tw y.2 ≤ _
        simp only [wtNs_append, wtNs] at this
        omega
theorem listF_wt {cmd : Pr Nd} (hc : Wt Nd.wt 16 cmd) {s : Ts} {x : Nd × Ts} (h : listF cmd s = .ok x) : x.1.wt + tw x.2 ≤ 2 + tw s := by
  have h1 := manyF_wt (listS_wt hc) h
  have h2 := tw_lines s
  have h5 := x.1.wt_eq
  simp only [wtNs] at h1
  omega
theorem someF_wt {cmd : Pr Nd} (hc : Wt Nd.wt 16 cmd) {s : Ts} {x : Nd × Ts} (h : someF cmd s = .ok x) : x.1.wt + tw x.2 ≤ 2 + tw s := by
  obtain ⟨y, h1, h⟩ := Rs.and_ok h
  split at h
  · cases h
  · injection h with h
    subst h
    exact listF_wt hc h1
theorem tookF_wt {k : Nat} {t : Txt} {x y : Nd × Ts} (h : tookF k t x = .ok y) : y.1 = x.1 ∧ tw y.2 + 20 ≤ tw x.2 := by
  unfold tookF at h
  split at h
  · rename_i hp
    injection h with h
    subst h
    have := tw_is hp
    exact ⟨rfl, by dsimp only; omega⟩
  · cases h
theorem insideF_wt {cmd : Pr Nd} (hc : Wt Nd.wt 16 cmd) (kind : Int) (k : Nat) (t : Txt) : Wt Nd.wt 16 (insideF cmd kind k t) := by
  intro s x h
  obtain ⟨y, h1, h⟩ := Rs.and_ok h
  have h2 := someF_wt hc h1
  obtain ⟨e, h3⟩ := tookF_wt h
  rw [e]
  simp only [Nd.wt, wtW, wtP, wtO, wtNs, List.length_nil]
  dsimp only at h3
  omega
theorem branchF_wt {cmd br : Pr Nd} (hc : Wt Nd.wt 16 cmd) (hb : ∀ s x, br s = .ok x → x.1.wt + tw x.2 ≤ tw s + 4) : ∀ s x, branchF cmd br s = .ok x → x.1.wt + tw x.2 ≤ tw s + 4 := by
  intro s x h
  obtain ⟨c, h1, h⟩ := Rs.and_ok h
  obtain ⟨c', h2, h⟩ := Rs.and_ok h
  obtain ⟨t, h3, h⟩ := Rs.and_ok h
  have g1 := someF_wt hc h1
  obtain ⟨e2, g2⟩ := tookF_wt h2
  have g3 := someF_wt hc h3
  rw [e2] at h
  split at h
  · rename_i hx
    obtain ⟨y, h4, h⟩ := Rs.and_ok h
    injection h with h
    subst h
    have g4 := hb _ _ h4
    have g5 := tw_is hx
    show Nd.wt _ + tw y.2 ≤ _
    simp only [Nd.wt, wtW, wtP, wtO, wtNs, List.length_nil, listN_wt]
    omega
  · split at h
    · rename_i hx
      obtain ⟨y, h4, h⟩ := Rs.and_ok h
      injection h with h
      subst h
      have g4 := someF_wt hc h4
      have g5 := tw_is hx
      show Nd.wt _ + tw y.2 ≤ _
      simp only [Nd.wt, wtW, wtP, wtO, wtNs, List.length_nil]
      omega
    · injection h with h
      subst h
      show Nd.wt _ + tw t.2 ≤ _
      simp only [Nd.wt, wtW, wtP, wtO, wtNs, List.length_nil]
      omega
theorem bodyF_wt {cmd : Pr Nd} (hc : Wt Nd.wt 16 cmd) {s : Ts} {x : Nd × Ts} (h : bodyF cmd s = .ok x) : x.1.wt + 30 + tw x.2 ≤ tw s := by
  unfold bodyF at h
  split at h
  · rename_i hp
    obtain ⟨y, h1, h⟩ := Rs.and_ok h
    have h2 := someF_wt hc h1
    obtain ⟨e, h3⟩ := tookF_wt h
    have h4 := tw_is hp
    rw [e]
    omega
  · cases h
theorem loopSF_wt {cmd : Pr Nd} (hc : Wt Nd.wt 16 cmd) (nm : Txt) {s : Ts} {x : Nd × Ts} (h : loopSF cmd nm s = .ok x) : x.1.wt + 26 + tw x.2 ≤ tw s + nm.length := by
  obtain ⟨c, h1, h⟩ := Rs.and_ok h
  obtain ⟨b, h2, h⟩ := Rs.and_ok h
  injection h with h
  subst h
  have g1 := someF_wt hc h1
  have g2 := bodyF_wt hc h2
  show Nd.wt _ + 26 + tw b.2 ≤ _
  simp only [Nd.wt, wtW, wtP, wtO, wtNs, List.length_nil]
  omega
theorem wordsS_wt : WtS wtW wtW wordsS := by
  intro a s x h
  unfold wordsS at h
  split at h
  · obtain ⟨l, h1, h⟩ := Rs.and_ok h
    injection h with h
    subst h
    have := partsF_wt _ _ h1
    show wtW (a ++ [l.1]) + tw l.2 ≤ _
    simp only [wtW_append, wtW]
    omega
  · injection h with h
    subst h
    exact Nat.le_refl _
theorem eachE_wt {cmd : Pr Nd} (hc : Wt Nd.wt 16 cmd) (nm : Txt) (ws : List (List Pt)) (os : List Txt) {s : Ts} {x : Nd × Ts} (h : eachE cmd nm ws os s = .ok x) : x.1.wt + 26 + tw x.2 ≤ tw s + nm.length + wtW ws + wtO os := by
  obtain ⟨b, h2, h⟩ := Rs.and_ok h
  injection h with h
  subst h
  have g2 := bodyF_wt hc h2
  have g3 := tw_lines (if isT 1 tSemi s = true then s.tail else s)
  have g4 := tw_ite (isT 1 tSemi s) s
  show Nd.wt _ + 26 + tw b.2 ≤ _
  simp only [Nd.wt, wtP, wtNs]
  omega
theorem eachF_wt {cmd : Pr Nd} (hc : Wt Nd.wt 16 cmd) : Wt Nd.wt 16 (eachF cmd) := by
  intro s x h
  match s with
  | [] => cases h
  | (k, t) :: r =>
    have g1 := tw_lines r
    simp only [eachF] at h
    split at h
    · split at h
      · rename_i hi
        have g2 := tw_is hi
        obtain ⟨y, h1, h⟩ := Rs.and_ok h
        have g3 := manyF_wt wordsS_wt h1
        split at h
        · have g4 := eachE_wt hc _ _ _ h
          simp only [wtO, wtW, tw, List.length_cons, List.length_nil] at g2 g3 g4 ⊢
          omega
        · cases h
      · have g4 := eachE_wt hc _ _ _ h
        simp only [wtO, wtW, tw] at g4 ⊢
        omega
    · cases h
theorem orsS_wt : WtS wtW wtW orsS := by
  intro a s x h
  unfold orsS at h
  split at h
  · obtain ⟨l, h1, h⟩ := Rs.and_ok h
    injection h with h
    subst h
    have := partsF_wt _ _ h1
    have := tw_tail s
    show wtW (a ++ [l.1]) + tw l.2 ≤ _
    simp only [wtW_append, wtW]
    omega
  · injection h with h
    subst h
    exact Nat.le_refl _
theorem itemF_wt {cmd : Pr Nd} (hc : Wt Nd.wt 16 cmd) : Wt Nd.wt 16 (itemF cmd) := by
  intro s x h
  obtain ⟨w, h1, h⟩ := Rs.and_ok h
  obtain ⟨ws, h2, h⟩ := Rs.and_ok h
  have g1 := partsF_wt _ _ h1
  have g2 := manyF_wt orsS_wt h2
  have g3 := tw_ite (isT 1 tOpen s) s
  simp only [wtW] at g2
  split at h
  · rename_i hx
    have g4 := tw_is hx
    obtain ⟨y, h3, h⟩ := Rs.and_ok h
    injection h with h
    subst h
    have g5 := listF_wt hc h3
    show Nd.wt _ + 16 + tw y.2 ≤ _
    simp only [Nd.wt, wtP, wtO, wtNs, List.length_nil]
    omega
  · cases h
theorem caseS_wt {cmd : Pr Nd} (hc : Wt Nd.wt 16 cmd) (w : List Pt) : WtS wtNs (fun x => x.wt - (4 + wtL w)) (caseS cmd w) := by
  intro a s x h
  unfold caseS at h
  split at h
  · injection h with h
    subst h
    have := tw_tail s
    show Nd.wt _ - _ + tw s.tail ≤ _
    simp only [Nd.wt, wtW, wtP, wtO, List.length_nil]
    omega
  · obtain ⟨y, h1, h⟩ := Rs.and_ok h
    have h2 := itemF_wt hc _ _ h1
    have h3 := tw_lines y.2
    have h4 := tw_lines y.2.tail
    have h5 := tw_tail y.2
    split at h
    · injection h with h
      subst h
      show wtNs (a ++ [y.1]) + tw (linesF y.2.tail) ≤ _
      simp only [wtNs_append, wtNs]
      omega
    · split at h
      · injection h with h
        subst h
        show wtNs (a ++ [y.1]) + tw (linesF y.2) ≤ _
        simp only [wtNs_append, wtNs]
        omega
      · cases h
theorem casesF_wt {cmd : Pr Nd} (hc : Wt Nd.wt 16 cmd) : Wt Nd.wt 16 (casesF cmd) := by
  intro s x h
  obtain ⟨w, h1, h⟩ := Rs.and_ok h
  have g1 := partsF_wt _ _ h1
  split at h
  · rename_i hx
    have g2 := manyF_wt (caseS_wt hc _) h
    have g3 := tw_lines w.2
    have g4 := tw_is hx
    have g5 := tw_lines (linesF w.2).tail
    simp only [wtNs] at g2
    omega
  · cases h
theorem defF_wt {cmd : Pr Nd} (hc : Wt Nd.wt 16 cmd) : Wt Nd.wt 16 (defF cmd) := by
  intro s x h
  match s with
  | [] => cases h
  | (k, t) :: r =>
    simp only [defF] at h
    obtain ⟨y, h1, h⟩ := Rs.and_ok h
    have g1 := hc _ _ h1
    have g2 := tw_lines r.tail.tail
    have g3 := tw_tail r
    have g4 := tw_tail r.tail
    split at h
    · injection h with h
      subst h
      show Nd.wt _ + 16 + tw y.2 ≤ _
      simp only [Nd.wt, wtW, wtP, wtO, wtNs, tw]
      omega
    · cases h
theorem withR_wt {x y : Nd × Ts} (h : withR x = .ok y) : y.1.wt + tw y.2 ≤ x.1.wt + tw x.2 := by
  obtain ⟨z, h1, h⟩ := Rs.and_ok h
  injection h with h
  subst h
  have g := manyF_wt redirsS_wt h1
  have e := x.1.wt_eq
  show Nd.wt _ + tw z.2 ≤ _
  simp only [Nd.wt]
  simp only [wtP] at g
  omega
theorem compF_wt {cmd br : Pr Nd} (hc : Wt Nd.wt 16 cmd) (hb : ∀ s x, br s = .ok x → x.1.wt + tw x.2 ≤ tw s + 4) {s : Ts} {f : Rs (Nd × Ts)} (hf : compF cmd br s = some f) {x : Nd × Ts} (h : f = .ok x) : x.1.wt + 16 + tw x.2 ≤ tw s := by
  have g := tw_tail s
  unfold compF at hf
  subst h
  split at hf
  · have := insideF_wt hc _ _ _ _ _ (Option.some.inj hf); omega
  split at hf
  · have := insideF_wt hc _ _ _ _ _ (Option.some.inj hf); omega
  split at hf
  · rename_i hx
    obtain ⟨y, h1, h2⟩ := Rs.and_ok (Option.some.inj hf)
    have g1 := hb _ _ h1
    obtain ⟨e, g2⟩ := tookF_wt h2
    have g3 := tw_is hx
    rw [e]
    omega
  split at hf
  · rename_i hx
    have := loopSF_wt hc _ (Option.some.inj hf)
    have g3 := tw_is hx
    simp only [List.length_cons, List.length_nil] at this g3
    omega
  split at hf
  · rename_i hx
    have := loopSF_wt hc _ (Option.some.inj hf)
    have g3 := tw_is hx
    simp only [List.length_cons, List.length_nil] at this g3
    omega
  split at hf
  · have := eachF_wt hc _ _ (Option.some.inj hf); omega
  split at hf
  · have := casesF_wt hc _ _ (Option.some.inj hf); omega
  · cases hf
theorem commandF_wt {cmd br : Pr Nd} (hc : Wt Nd.wt 16 cmd) (hb : ∀ s x, br s = .ok x → x.1.wt + tw x.2 ≤ tw s + 4) : Wt Nd.wt 16 (commandF cmd br) := by
  intro s x h
  unfold commandF at h
  split at h
  · rename_i f hf
    obtain ⟨y, h1, h⟩ := Rs.and_ok h
    have g1 := compF_wt hc hb hf h1
    have g2 := withR_wt h
    omega
  · split at h
    · cases h
    · split at h
      · exact defF_wt hc _ _ h
      · exact simpleF_wt _ _ h
theorem lvS_wt : ∀ L, Wt Nd.wt 16 (lvS L).1 ∧ ∀ s x, (lvS L).2 s = .ok x → x.1.wt + tw x.2 ≤ tw s + 4
  | 0 => ⟨fun s x h => (by cases h), fun s x h => (by cases h)⟩
  | L + 1 => by
    obtain ⟨h1, h2⟩ := lvS_wt L
    have hb := branchF_wt h1 h2
    exact ⟨commandF_wt h1 hb, hb⟩
theorem scriptF_wt {s : Ts} {x : Nd} (h : scriptF s = .ok x) : x.wt ≤ 2 + tw s := by
  obtain ⟨y, h1, h⟩ := Rs.and_ok h
  split at h
  · injection h with h
    subst h
    have := listF_wt (lvS_wt 30).1 h1
    omega
  · cases h
end Go.Proofs.YtcoeiiihmpnagaaDoor
