/- Words and their parts: the parts of a text, and the text of parts, as plain functions. No program is named. Conditions: none. -/
import Derived.Test.YtckcdbkggaoomaaDoorLx
namespace Go.Proofs.YtckcdbkggaoomaaDoor

/-- A part: its kind, whether it is quoted, its text, name, operator and word. -/
inductive Pt where
  | mk (k : Int) (q : Bool) (t n o : Txt) (w : List Pt)
namespace Pt
def k : Pt → Int
  | .mk k _ _ _ _ _ => k
def q : Pt → Bool
  | .mk _ q _ _ _ _ => q
def t : Pt → Txt
  | .mk _ _ t _ _ _ => t
def n : Pt → Txt
  | .mk _ _ _ n _ _ => n
def o : Pt → Txt
  | .mk _ _ _ _ o _ => o
def w : Pt → List Pt
  | .mk _ _ _ _ _ w => w
end Pt
theorem Pt.eta (p : Pt) : Pt.mk p.k p.q p.t p.n p.o p.w = p := by cases p; rfl
/-- What is read, or the error's number. -/
inductive Rs (α : Type) where
  | ok (a : α) : Rs α
  | bad (e : Nat) : Rs α
def Rs.and {α β : Type} (r : Rs α) (f : α → Rs β) : Rs β := match r with
  | .ok a => f a
  | .bad e => .bad e
theorem Rs.and_ok {α β : Type} {r : Rs α} {f : α → Rs β} {b : β} (h : r.and f = .ok b) : ∃ a, r = .ok a ∧ f a = .ok b := by
  cases r with
  | bad k => cases h
  | ok a => exact ⟨a, rfl, h⟩

def isLet (c : UInt8) : Bool := (decide (97 ≤ c) && decide (c ≤ 122)) || (decide (65 ≤ c) && decide (c ≤ 90)) || c == 95
def isDig (c : UInt8) : Bool := decide (48 ≤ c) && decide (c ≤ 57)
def isNam (c : UInt8) : Bool := isLet c || isDig c
def isSpec (c : UInt8) : Bool := isDig c || c == 35 || c == 63 || c == 64 || c == 42
/-- How long the variable's name at a text's head is. -/
def nameN : Txt → Nat
  | [] => 0
  | c :: r => if isLet c = true then (r.takeWhile isNam).length + 1 else 0
def specN : Txt → Nat
  | [] => 0
  | c :: _ => if isSpec c = true then 1 else 0
def digN (s : Txt) : Nat := (s.takeWhile isDig).length
/-- How long the parameter's name at a text's head is. -/
def paramN (s : Txt) : Nat := if 0 < nameN s then nameN s else if 0 < digN s then digN s else specN s

def addP (l : List Pt) (p : Pt) : List Pt := match l.getLast? with
  | some x => if p.k = 0 ∧ x.k = 0 ∧ x.q = p.q then l.dropLast ++ [.mk x.k x.q (x.t ++ p.t) x.n x.o x.w] else l ++ [p]
  | none => l ++ [p]
mutual
def Pt.qd : Pt → Pt
  | .mk k _ t n o w => .mk k true t n o (qdL [] w)
def qdL (acc : List Pt) : List Pt → List Pt
  | [] => acc
  | p :: r => qdL (addP acc p.qd) r
end
mutual
def Pt.has : Pt → Bool
  | .mk k _ _ _ _ w => decide (k = 2) || hasL w
def hasL : List Pt → Bool
  | [] => false
  | p :: r => p.has || hasL r
end
def opsL : List Txt := [[58, 45], [58, 61], [58, 63], [58, 43], [37, 37], [35, 35], [45], [61], [63], [43], [37], [35]]
def opOf (s : Txt) : Txt := (opsL.find? fun o => pf o s).getD []
abbrev lenO : Txt := [108, 101, 110]
/-- A parameter in braces; P reads words one level deeper. -/
def bracesF (P : Txt → Rs (List Pt)) (q : Bool) (s : Txt) : Rs Pt :=
  if 1 < s.length ∧ s.head? = some 35 ∧ paramN (s.drop 1) = s.length - 1 then .ok (.mk 1 q [] (s.drop 1) lenO [])
  else if paramN s = 0 then .bad 90
  else if s.drop (paramN s) = [] then .ok (.mk 1 q [] (s.take (paramN s)) [] [])
  else if opOf (s.drop (paramN s)) = [] ∨ ((opOf (s.drop (paramN s)) = [61] ∨ opOf (s.drop (paramN s)) = [58, 61]) ∧ nameN (s.take (paramN s)) = 0) then .bad 90
  else (P ((s.drop (paramN s)).drop (opOf (s.drop (paramN s))).length)).and fun w =>
    if hasL w = true then .bad 90 else .ok (.mk 1 q [] (s.take (paramN s)) (opOf (s.drop (paramN s))) (if q = true then qdL [] w else w))
/-- What a dollar at a text's head begins, and how long it is. -/
def dollarF (P : Txt → Rs (List Pt)) (q : Bool) (s : Txt) : Rs (Pt × Nat) :=
  if (s.drop 1).head? = some 40 ∨ (s.drop 1).head? = some 123 then match unitD 30 s with
    | none => .bad 90
    | some t =>
      if (s.drop 1).head? = some 123 then (bracesF P q ((s.drop 2).take (s.length - t.length - 3))).and fun p => .ok (p, s.length - t.length)
      else if 4 < s.length - t.length ∧ s[2]? = some 40 ∧ s[s.length - t.length - 2]? = some 41 then .ok (.mk 3 q ((s.drop 3).take (s.length - t.length - 5)) [] [] [], s.length - t.length)
      else .ok (.mk 2 q ((s.drop 2).take (s.length - t.length - 3)) [] [] [], s.length - t.length)
  else if 0 < nameN (s.drop 1) then .ok (.mk 1 q [] ((s.drop 1).take (nameN (s.drop 1))) [] [], nameN (s.drop 1) + 1)
  else if 0 < specN (s.drop 1) then .ok (.mk 1 q [] ((s.drop 1).take 1) [] [], 2)
  else .ok (.mk 0 q [36] [] [] [], 1)
def tx (q : Bool) (t : Txt) : Pt := .mk 0 q t [] [] []
/-- What is at a text's head within quotes. -/
def dblOne (P : Txt → Rs (List Pt)) (s : Txt) : Rs (List Pt × Nat) := match s with
  | [] => .bad 0
  | c :: r =>
    if c = 36 then (dollarF P true (c :: r)).and fun x => .ok ([x.1], x.2)
    else if c = 92 ∧ (r.head? = some 36 ∨ r.head? = some 96 ∨ r.head? = some 34 ∨ r.head? = some 92) then .ok ([tx true (r.take 1)], 2)
    else .ok ([tx true [c]], 1)
def loopF (one : Txt → Rs (List Pt × Nat)) : Nat → List Pt → Txt → Rs (List Pt)
  | 0, _, _ => .bad 0
  | _ + 1, acc, [] => .ok acc
  | n + 1, acc, c :: r => (one (c :: r)).and fun x => loopF one n (x.1.foldl addP acc) ((c :: r).drop x.2)
def dblF (P : Txt → Rs (List Pt)) (s : Txt) : Rs (List Pt) := if s = [] then .ok [tx true []] else loopF (dblOne P) (s.length + 1) [] s
/-- What is at a text's head outside quotes. -/
def outOne (P : Txt → Rs (List Pt)) (s : Txt) : Rs (List Pt × Nat) := match s with
  | [] => .bad 0
  | c :: r =>
    if c = 36 then (dollarF P false (c :: r)).and fun x => .ok ([x.1], x.2)
    else if c = 92 ∨ c = 39 ∨ c = 34 then match unitD 30 (c :: r) with
      | none => .bad 90
      | some t =>
        if c = 92 then .ok ([tx true (r.take 1)], 2)
        else if c = 34 then (dblF P (r.take (r.length - t.length - 1))).and fun l => .ok (l, r.length + 1 - t.length)
        else .ok ([tx true (r.take (r.length - t.length - 1))], r.length + 1 - t.length)
    else .ok ([tx false [c]], 1)
/-- The parts of a text, with so many levels left. -/
def wpL : Nat → Txt → Rs (List Pt)
  | 0, _ => .bad 2
  | L + 1, s => loopF (outOne (wpL L)) (s.length + 1) [] s
def single (s : Txt) : Txt := 39 :: (s.flatMap fun b => if b = 39 then [39, 92, 39, 39] else [b]) ++ [39]
def wrapQ (q : Bool) (s : Txt) : Txt := if q = true then 34 :: s ++ [34] else s
mutual
def Pt.pr : Pt → Txt
  | .mk k q t n o w =>
    if k = 0 then (if q = true then single t else t)
    else wrapQ q (if k = 2 then [36, 40] ++ t ++ [41] else if k = 3 then [36, 40, 40] ++ t ++ [41, 41] else if k = 1 then (if o = lenO then [36, 123, 35] ++ n ++ [125] else [36, 123] ++ n ++ o ++ prL w ++ [125]) else [])
def prL : List Pt → Txt
  | [] => []
  | p :: r => p.pr ++ prL r
end
theorem prL_append : ∀ a b : List Pt, prL (a ++ b) = prL a ++ prL b
  | [], _ => rfl
  | p :: a, b => by simp only [List.cons_append, prL, prL_append a b, List.append_assoc]

/-! ### How long -/
theorem nameN_le : ∀ s : Txt, nameN s ≤ s.length
  | [] => Nat.le_refl _
  | c :: r => by
    have : (r.takeWhile isNam).length ≤ r.length := (List.takeWhile_sublist _).length_le
    simp only [nameN]
    split
    · simp only [List.length_cons]; omega
    · exact Nat.zero_le _
theorem specN_le : ∀ s : Txt, specN s ≤ s.length
  | [] => Nat.le_refl _
  | c :: r => by
    simp only [specN, List.length_cons]
    split <;> omega
theorem specN_one (s : Txt) : specN s ≤ 1 := by
  cases s with
  | nil => exact Nat.zero_le _
  | cons c r => simp only [specN]; split <;> omega
theorem digN_le (s : Txt) : digN s ≤ s.length := (List.takeWhile_sublist _).length_le
theorem paramN_le (s : Txt) : paramN s ≤ s.length := by
  unfold paramN
  split
  · exact nameN_le s
  · split
    · exact digN_le s
    · exact specN_le s
theorem opOf_in (s : Txt) : opOf s = [] ∨ (opOf s ∈ opsL ∧ pf (opOf s) s = true) := by
  unfold opOf
  cases h : opsL.find? fun o => pf o s with
  | none => exact .inl rfl
  | some o => exact .inr ⟨List.mem_of_find?_eq_some h, by simpa using List.find?_some h⟩
theorem opOf_len (s : Txt) : (opOf s).length ≤ s.length ∧ (opOf s).length ≤ 2 := by
  rcases opOf_in s with h | ⟨h, h2⟩
  · rw [h]; exact ⟨Nat.zero_le _, by decide⟩
  · refine ⟨?_, ?_⟩
    · unfold pf at h2
      exact (of_decide_eq_true h2).1
    · have : ∀ o ∈ opsL, o.length ≤ 2 := by decide
      exact this _ h
theorem addP_len (l : List Pt) (p : Pt) : (addP l p).length ≤ l.length + 1 := by
  unfold addP
  split
  · rename_i x hx
    have hne : l ≠ [] := by rintro rfl; cases hx
    have := List.length_pos_iff.2 hne
    split
    · simp only [List.length_append, List.length_dropLast, List.length_cons, List.length_nil]; omega
    · simp
  · simp
theorem fold_len : ∀ (ps acc : List Pt), (ps.foldl addP acc).length ≤ acc.length + ps.length
  | [], acc => Nat.le_refl _
  | p :: ps, acc => by
    have h1 := fold_len ps (addP acc p)
    have h2 := addP_len acc p
    simp only [List.foldl_cons, List.length_cons]
    omega
theorem qdL_len : ∀ (l acc : List Pt), (qdL acc l).length ≤ acc.length + l.length
  | [], acc => by simp [qdL]
  | p :: l, acc => by
    have h1 := qdL_len l (addP acc p.qd)
    have h2 := addP_len acc p.qd
    simp only [qdL, List.length_cons]
    omega
/-- It takes something, and no more than there is; and there are no more parts than bytes. -/
def Takes1 (one : Txt → Rs (List Pt × Nat)) : Prop := ∀ s x, one s = .ok x → 0 < x.2 ∧ x.2 ≤ s.length ∧ x.1.length ≤ x.2
theorem dollarF_takes {P : Txt → Rs (List Pt)} {q : Bool} {r : Txt} {x : Pt × Nat} (h : dollarF P q (36 :: r) = .ok x) : 0 < x.2 ∧ x.2 ≤ r.length + 1 := by
  unfold dollarF at h
  simp only [List.drop_succ_cons, List.drop_zero] at h
  split at h
  · split at h
    · cases h
    · rename_i t ht
      have h1 := unitD_takes 30 _ _ ht
      simp only [List.length_cons] at h1 h
      split at h
      · obtain ⟨p, _, h⟩ := Rs.and_ok h
        injection h with h
        rw [← h]
        dsimp only
        omega
      · split at h <;> (injection h with h; rw [← h]; dsimp only; omega)
  · split at h
    · injection h with h
      have := nameN_le r
      rw [← h]
      dsimp only
      omega
    · split at h
      · rename_i hs
        injection h with h
        have := specN_le r
        rw [← h]
        dsimp only
        omega
      · injection h with h
        rw [← h]
        dsimp only
        omega
theorem dblOne_takes (P : Txt → Rs (List Pt)) : Takes1 (dblOne P) := by
  intro s x h
  cases s with
  | nil => cases h
  | cons c r =>
    simp only [dblOne] at h
    split at h
    · rename_i hc
      subst hc
      obtain ⟨y, h1, h⟩ := Rs.and_ok h
      injection h with h
      have := dollarF_takes h1
      rw [← h]
      exact ⟨this.1, this.2, this.1⟩
    · split at h
      · rename_i hc
        injection h with h
        rw [← h]
        have : r ≠ [] := by
          rintro rfl
          rcases hc.2 with h | h | h | h <;> cases h
        have := List.length_pos_iff.2 this
        simp only [List.length_cons, List.length_nil]
        omega
      · injection h with h
        rw [← h]
        simp only [List.length_cons, List.length_nil]
        omega
theorem loopF_len {one : Txt → Rs (List Pt × Nat)} (ho : Takes1 one) : ∀ (n : Nat) (acc : List Pt) (s : Txt) (l : List Pt), loopF one n acc s = .ok l → l.length ≤ acc.length + s.length
  | 0, _, _, _, h => by cases h
  | n + 1, acc, [], l, h => by
    injection h with h
    rw [h]
    exact Nat.le_add_right _ _
  | n + 1, acc, c :: r, l, h => by
    simp only [loopF] at h
    obtain ⟨x, h1, h⟩ := Rs.and_ok h
    have h2 := ho _ _ h1
    have h3 := loopF_len ho n _ _ _ h
    have h4 := fold_len x.1 acc
    rw [List.length_drop] at h3
    omega
theorem loopF_more {one : Txt → Rs (List Pt × Nat)} (ho : Takes1 one) : ∀ (n m : Nat) (acc : List Pt) (s : Txt), s.length < n → s.length < m → loopF one n acc s = loopF one m acc s
  | 0, _, _, _, h, _ => by omega
  | _, 0, _, _, _, h => by omega
  | n + 1, m + 1, acc, [], _, _ => rfl
  | n + 1, m + 1, acc, c :: r, h1, h2 => by
    simp only [loopF]
    cases h : one (c :: r) with
    | bad e => rfl
    | ok x =>
      have h3 := ho _ _ h
      simp only [List.length_cons] at h1 h2 h3
      exact loopF_more ho n m _ _ (by rw [List.length_drop, List.length_cons]; omega) (by rw [List.length_drop, List.length_cons]; omega)
theorem dblF_len {P : Txt → Rs (List Pt)} {s : Txt} {l : List Pt} (h : dblF P s = .ok l) : l.length ≤ s.length + 1 := by
  unfold dblF at h
  split at h
  · injection h with h
    rw [← h]
    simp
  · have := loopF_len (dblOne_takes P) _ _ _ _ h
    simp only [List.length_nil] at this
    omega
theorem outOne_takes (P : Txt → Rs (List Pt)) : Takes1 (outOne P) := by
  intro s x h
  cases s with
  | nil => cases h
  | cons c r =>
    simp only [outOne] at h
    split at h
    · rename_i hc
      subst hc
      obtain ⟨y, h1, h⟩ := Rs.and_ok h
      injection h with h
      have := dollarF_takes h1
      rw [← h]
      exact ⟨this.1, this.2, this.1⟩
    · split at h
      · split at h
        · cases h
        · rename_i hc t ht
          have h1 := unitD_takes 30 _ _ ht
          simp only [List.length_cons] at h1
          split at h
          · rename_i h92
            subst h92
            injection h with h
            rw [← h]
            have : r ≠ [] := by
              rintro rfl
              rw [show unitD 30 [92] = none from rfl] at ht
              cases ht
            have := List.length_pos_iff.2 this
            simp only [List.length_cons, List.length_nil]
            omega
          · have hq : ∀ u, c = 39 ∨ c = 34 → unitD 30 (c :: r) = some u → u.length + 1 ≤ r.length := by
              intro u hc hu
              rcases hc with rfl | rfl
              · have : quoteEnd r = some u := hu
                have := quoteEnd_length this
                omega
              · have : untilD 29 34 r = some u := hu
                have := untilD_takes 29 34 _ _ this
                omega
            rename_i h92
            have h2 := hq t (Or.resolve_left (by assumption) h92) ht
            split at h
            · obtain ⟨l, h3, h⟩ := Rs.and_ok h
              injection h with h
              have h4 := dblF_len h3
              rw [List.length_take] at h4
              rw [← h]
              simp only [List.length_cons]
              omega
            · injection h with h
              rw [← h]
              simp only [List.length_cons, List.length_nil]
              omega
      · injection h with h
        rw [← h]
        simp only [List.length_cons, List.length_nil]
        omega
theorem wpL_len {L : Nat} {s : Txt} {l : List Pt} (h : wpL L s = .ok l) : l.length ≤ s.length := by
  cases L with
  | zero => cases h
  | succ L =>
    have := loopF_len (outOne_takes _) _ _ _ _ h
    simpa using this
end Go.Proofs.YtckcdbkggaoomaaDoor
