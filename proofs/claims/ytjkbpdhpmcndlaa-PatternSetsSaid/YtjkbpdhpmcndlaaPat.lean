/- Patterns: what they are, and which texts they match. Plain law; no program is named. Conditions: none. -/
import Derived.Test.YtjkbpdhpmcndlaaPush
namespace Go.Proofs.Ytjkbpdhpmcndlaa
open Go.RowKit Vc

abbrev Set8 := UInt8 → Bool
structure Pc where
  star : Bool
  set : Set8
/-- The byte at a text's head, that may have a backslash ahead, and what is behind it. -/
def single : List UInt8 → UInt8 × List UInt8
  | [] => (0, [])
  | [a] => (a, [])
  | a :: b :: r => if a = 92 then (b, r) else (a, b :: r)
def addR (S : Set8) (lo hi : UInt8) : Set8 := fun c => S c || (decide (lo.toNat ≤ c.toNat) && decide (c.toNat ≤ hi.toNat))
/-- What is behind a byte of a set: a dash and the last byte, or nothing. -/
def dash (lo : UInt8) (s : List UInt8) : UInt8 × List UInt8 := match s with
  | a :: c :: r => if a = 45 ∧ c ≠ 93 then single (c :: r) else (lo, s)
  | _ => (lo, s)
def goesOn (s : List UInt8) (first : Bool) : Bool := match s with
  | [] => false
  | a :: _ => first || decide (a ≠ 93)
def setL : Nat → List UInt8 → Bool → Set8 → Set8 × List UInt8
  | 0, s, _, S => (S, s)
  | n + 1, s, first, S => if goesOn s first = true then setL n (dash (single s).1 (single s).2).2 false (addR S (single s).1 (dash (single s).1 (single s).2).1) else (S, s)
def cutNot : List UInt8 → List UInt8 × Bool
  | [] => ([], false)
  | a :: r => if a = 33 then (r, true) else (a :: r, false)
def mkSet (s : List UInt8) : Option (Set8 × List UInt8) :=
  match setL ((cutNot s).1.length + 1) (cutNot s).1 true (fun _ => false) with
  | (_, []) => none
  | (S, _ :: r) => some (fun c => S c != (cutNot s).2, r)
def onePc (p : List UInt8) : Set8 × List UInt8 := match p with
  | [] => (fun _ => false, [])
  | a :: r => if a = 63 then (fun _ => true, r) else if a = 91 then (match mkSet r with
    | some x => x
    | none => (fun c => decide (c = 91), r)) else (fun c => decide (c = (single (a :: r)).1), (single (a :: r)).2)
def pieces : Nat → List UInt8 → List Pc
  | 0, _ => []
  | _ + 1, [] => []
  | n + 1, a :: r => if a = 42 then ⟨true, fun _ => false⟩ :: pieces n r else ⟨false, (onePc (a :: r)).1⟩ :: pieces n (onePc (a :: r)).2
def pcs (p : List UInt8) : List Pc := pieces p.length p
def mt : List Pc → List UInt8 → Bool
  | [], t => t.isEmpty
  | ⟨true, _⟩ :: ps, t => (List.range (t.length + 1)).any fun j => mt ps (t.drop j)
  | ⟨false, _⟩ :: _, [] => false
  | ⟨false, S⟩ :: ps, c :: t => S c && mt ps t
def pMatch (p s : List UInt8) : Bool := mt (pcs p) s
def cutOne (s p : List UInt8) (atEnd : Bool) (n : Nat) : Option (List UInt8) :=
  if atEnd then (if pMatch p (s.drop (s.length - n)) then some (s.take (s.length - n)) else none)
  else (if pMatch p (s.take n) then some (s.drop n) else none)
def removeL (s p : List UInt8) (atEnd most : Bool) : Nat → Nat → List UInt8
  | 0, _ => s
  | f + 1, k => match cutOne s p atEnd (if most then s.length - k else k) with
    | some t => t
    | none => removeL s p atEnd most f (k + 1)
def remove (s p : List UInt8) (atEnd most : Bool) : List UInt8 := removeL s p atEnd most (s.length + 1) 0
def plain : List UInt8 → List UInt8
  | [] => []
  | [a] => [a]
  | a :: b :: r => if a = 92 then b :: plain r else a :: plain (b :: r)
def isSign (a : UInt8) : Bool := a == 42 || a == 63 || a == 91
def special : List UInt8 → Bool
  | [] => false
  | [a] => isSign a
  | a :: b :: r => if isSign a then true else if a = 92 then special r else special (b :: r)
def escape (s : List UInt8) : List UInt8 := s.flatMap fun c => [92, c]

/-! ### How far each goes -/
theorem single_length {p : List UInt8} (h : p ≠ []) : (single p).2.length < p.length := by
  match p, h with
  | [a], _ => simp [single]
  | a :: b :: r, _ => simp only [single]; split <;> simp <;> omega
theorem dash_length (lo : UInt8) (s : List UInt8) : (dash lo s).2.length ≤ s.length := by
  match s with
  | [] => exact Nat.le_refl _
  | [a] => exact Nat.le_refl _
  | a :: c :: r =>
    simp only [dash]
    split
    · have := single_length (p := c :: r) (List.cons_ne_nil _ _)
      simp at this ⊢
      omega
    · exact Nat.le_refl _
theorem goesOn_ne {s : List UInt8} {f : Bool} (h : goesOn s f = true) : s ≠ [] := by
  rintro rfl
  cases h
theorem step_length {s : List UInt8} (h : s ≠ []) : (dash (single s).1 (single s).2).2.length < s.length := Nat.lt_of_le_of_lt (dash_length _ _) (single_length h)
theorem setL_length : ∀ (n : Nat) (s : List UInt8) (f : Bool) (S : Set8), (setL n s f S).2.length ≤ s.length
  | 0, _, _, _ => Nat.le_refl _
  | n + 1, s, f, S => by
    rw [setL]
    split
    · rename_i h
      exact Nat.le_trans (setL_length n _ _ _) (Nat.le_of_lt (step_length (goesOn_ne h)))
    · exact Nat.le_refl _
theorem cutNot_length (s : List UInt8) : (cutNot s).1.length ≤ s.length := by
  cases s with
  | nil => simp [cutNot]
  | cons a r => simp only [cutNot]; split <;> simp
theorem mkSet_length {s : List UInt8} {x : Set8 × List UInt8} (h : mkSet s = some x) : x.2.length < s.length := by
  unfold mkSet at h
  have h1 := setL_length ((cutNot s).1.length + 1) (cutNot s).1 true (fun _ => false)
  have h2 := cutNot_length s
  split at h
  · cases h
  · rename_i S a r he
    rw [he] at h1
    obtain rfl := Option.some.inj h
    simp at h1 ⊢
    omega
theorem onePc_length {p : List UInt8} (h : p ≠ []) : (onePc p).2.length < p.length := by
  match p, h with
  | a :: r, _ =>
    simp only [onePc]
    split
    · simp
    · split
      · split
        · rename_i x hx
          have := mkSet_length hx
          simp; omega
        · simp
      · exact single_length (List.cons_ne_nil _ _)
theorem setL_more : ∀ (n m : Nat) (s : List UInt8) (f : Bool) (S : Set8), s.length < n → s.length < m → setL n s f S = setL m s f S
  | 0, _, _, _, _, h, _ => by omega
  | _, 0, _, _, _, _, h => by omega
  | n + 1, m + 1, s, f, S, hn, hm => by
    rw [setL, setL]
    split
    · rename_i h
      have := step_length (goesOn_ne h)
      exact setL_more n m _ _ _ (by omega) (by omega)
    · rfl
theorem pieces_more : ∀ (n m : Nat) (p : List UInt8), p.length ≤ n → p.length ≤ m → pieces n p = pieces m p
  | 0, 0, _, _, _ => rfl
  | 0, m + 1, p, h, _ => by
    obtain rfl : p = [] := List.length_eq_zero_iff.1 (by omega)
    rfl
  | n + 1, 0, p, _, h => by
    obtain rfl : p = [] := List.length_eq_zero_iff.1 (by omega)
    rfl
  | n + 1, m + 1, [], _, _ => rfl
  | n + 1, m + 1, a :: r, hn, hm => by
    have h1 := onePc_length (p := a :: r) (List.cons_ne_nil _ _)
    simp only [List.length_cons] at hn hm h1
    rw [pieces, pieces, pieces_more n m r (by omega) (by omega), pieces_more n m (onePc (a :: r)).2 (by omega) (by omega)]
theorem pcs_nil : pcs [] = [] := rfl
theorem pcs_star (r : List UInt8) : pcs (42 :: r) = ⟨true, fun _ => false⟩ :: pcs r := by
  rw [pcs, List.length_cons, pieces, if_pos rfl]
  rfl
theorem pcs_one {p : List UInt8} (h : p ≠ []) (hs : p.head? ≠ some 42) : pcs p = ⟨false, (onePc p).1⟩ :: pcs (onePc p).2 := by
  match p, h with
  | a :: r, h =>
    have h1 := onePc_length h
    have ha : a ≠ 42 := fun e => hs (by rw [e]; rfl)
    rw [pcs, List.length_cons, pieces, if_neg ha, pcs]
    rw [pieces_more _ _ _ (by simp at h1 ⊢; omega) (Nat.le_refl _)]
theorem plain_step {p : List UInt8} (h : p ≠ []) : plain p = (single p).1 :: plain (single p).2 := by
  match p, h with
  | [a], _ => rfl
  | a :: b :: r, _ => simp only [plain, single]; split <;> rfl
theorem special_step (a : UInt8) (r : List UInt8) : special (a :: r) = (isSign a || special (single (a :: r)).2) := by
  cases r with
  | nil => simp [special, single]
  | cons b r =>
    simp only [special, single]
    cases h : isSign a
    · simp only [Bool.false_eq_true, if_false, Bool.false_or]; split <;> rfl
    · simp
theorem plain_length : ∀ (p : List UInt8), (plain p).length ≤ p.length
  | [] => Nat.le_refl _
  | [a] => Nat.le_refl _
  | a :: b :: r => by
    have h1 := plain_length r
    have h2 := plain_length (b :: r)
    simp only [plain]
    simp only [List.length_cons] at h2 ⊢
    split <;> simp <;> omega
theorem escape_length (s : List UInt8) : (escape s).length = 2 * s.length := by
  induction s with
  | nil => rfl
  | cons a r ih =>
    have : escape (a :: r) = 92 :: a :: escape r := rfl
    rw [this]
    simp only [List.length_cons, ih]
    omega

/-! ### What a star matches; a text of which more is taken -/
theorem mt_star {S : Set8} {ps : List Pc} {t : List UInt8} : mt (⟨true, S⟩ :: ps) t = true ↔ ∃ j, j ≤ t.length ∧ mt ps (t.drop j) = true := by
  simp only [mt, List.any_eq_true, List.mem_range]
  constructor
  · rintro ⟨j, hj, h⟩; exact ⟨j, by omega, h⟩
  · rintro ⟨j, hj, h⟩; exact ⟨j, by omega, h⟩
end Go.Proofs.Ytjkbpdhpmcndlaa
