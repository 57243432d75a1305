/- Variables: names, lists of variables that rise by name. Plain law; no program is named. Conditions: as each theorem names them. -/
import Derived.Test.YtgincpkggnndeaaGreatDoorM1
import Derived.Lib.Bytealg
namespace Go.Proofs.YtgincpkggnndeaaGreatDoor
open Go.RowKit Vc

/-! ### The order -/
abbrev lt (a b : Txt) : Bool := Op.bytesLess a b
theorem lt_irrefl : ∀ a : Txt, lt a a = false
  | [] => rfl
  | a :: x => by
    have := lt_irrefl x
    simp only [lt, Op.bytesLess] at this ⊢
    simp [this]
theorem lt_trans : ∀ {a b c : Txt}, lt a b = true → lt b c = true → lt a c = true
  | [], [], _, h, _ => by cases h
  | _ :: _, [], _, h, _ => by cases h
  | _, _ :: _, [], _, h => by cases h
  | [], _ :: _, _ :: _, _, _ => rfl
  | a :: x, b :: y, c :: z, h1, h2 => by
    simp only [lt, Op.bytesLess, Bool.or_eq_true, Bool.and_eq_true, decide_eq_true_eq, beq_iff_eq] at h1 h2 ⊢
    rcases h1 with h1 | ⟨rfl, h1⟩
    · rcases h2 with h2 | ⟨rfl, _⟩
      · exact .inl (UInt8.lt_trans h1 h2)
      · exact .inl h1
    · rcases h2 with h2 | ⟨rfl, h2⟩
      · exact .inl h2
      · exact .inr ⟨rfl, lt_trans (a := x) (b := y) h1 h2⟩
theorem lt_tri : ∀ {a b : Txt}, lt a b = false → a ≠ b → lt b a = true
  | [], [], _, h => absurd rfl h
  | [], _ :: _, h, _ => by cases h
  | _ :: _, [], _, _ => rfl
  | a :: x, b :: y, h, hn => by
    simp only [lt, Op.bytesLess, Bool.or_eq_false_iff, Bool.and_eq_false_iff, decide_eq_false_iff_not, beq_eq_false_iff_ne] at h
    simp only [lt, Op.bytesLess, Bool.or_eq_true, Bool.and_eq_true, decide_eq_true_eq, beq_iff_eq]
    by_cases hab : a = b
    · subst hab
      exact .inr ⟨rfl, lt_tri (h.2.resolve_left fun h => h rfl) fun e => hn (by rw [e])⟩
    · rcases UInt8.lt_or_lt_of_ne hab with h' | h'
      · exact absurd h' h.1
      · exact .inl h'
theorem cmp_lt : ∀ a b : Txt, decide (Go.Lib.compareBytes a b < 0) = lt a b
  | [], [] => rfl
  | [], _ :: _ => rfl
  | _ :: _, [] => rfl
  | a :: x, b :: y => by
    have ih := cmp_lt x y
    simp only [Go.Lib.compareBytes, lt, Op.bytesLess]
    by_cases h : a < b
    · simp [h]
    · by_cases h' : b < a
      · have : a ≠ b := fun e => by subst e; exact h h'
        simp [h, h', this]
      · have : a = b := UInt8.le_antisymm (UInt8.not_lt.1 h') (UInt8.not_lt.1 h)
        subst this
        simp only [h, if_false, decide_false, Bool.false_or, BEq.rfl, Bool.true_and]
        exact ih
theorem cmp_eq0 : ∀ a b : Txt, decide (Go.Lib.compareBytes a b = 0) = decide (a = b)
  | [], [] => rfl
  | [], _ :: _ => rfl
  | _ :: _, [] => rfl
  | a :: x, b :: y => by
    have ih := cmp_eq0 x y
    simp only [Go.Lib.compareBytes]
    by_cases h : a < b
    · have : a ≠ b := fun e => by subst e; exact UInt8.lt_irrefl _ h
      simp [h, this]
    · by_cases h' : b < a
      · have : a ≠ b := fun e => by subst e; exact h h'
        simp [h, h', this]
      · have : a = b := UInt8.le_antisymm (UInt8.not_lt.1 h') (UInt8.not_lt.1 h)
        subst this
        simp only [h, if_false, List.cons.injEq, true_and]
        exact ih

/-! ### Names -/
def letterZ (c : Int) : Bool := (decide (65 ≤ c) && decide (c ≤ 90)) || (decide (97 ≤ c) && decide (c ≤ 122)) || decide (c = 95)
def digitZ (c : Int) : Bool := decide (48 ≤ c) && decide (c ≤ 57)
def letter (c : UInt8) : Bool := letterZ (c.toNat : Int)
def digit (c : UInt8) : Bool := digitZ (c.toNat : Int)
/-- How many bytes stand in the name at the head. -/
def nameN (first : Bool) : Txt → Nat
  | [] => 0
  | c :: r => if (letter c || (!first && digit c)) = true then nameN false r + 1 else 0
theorem nameN_le : ∀ (b : Bool) (s : Txt), nameN b s ≤ s.length
  | _, [] => Nat.le_refl _
  | b, c :: r => by
    have := nameN_le false r
    simp only [nameN, List.length_cons]
    split <;> omega
def isName (s : Txt) : Bool := !decide (s = []) && decide (nameN true s = s.length)

/-! ### Lists of variables -/
structure Vr where
  name : Txt
  value : Txt
  exp : Bool
  ro : Bool
deriving DecidableEq
def Vr.zero : Vr := ⟨[], [], false, false⟩
def vcell (v : Vr) : List Value := [.string (S v.name), .string (S v.value), .bool v.exp, .bool v.ro]
def vcs (l : List Vr) : List Value := l.flatMap vcell
theorem vcs_append (l m : List Vr) : vcs (l ++ m) = vcs l ++ vcs m := by simp [vcs]
theorem vcs_length (l : List Vr) : (vcs l).length = l.length * 4 := by
  induction l with
  | nil => rfl
  | cons a l ih =>
    have e : vcs (a :: l) = vcell a ++ vcs l := rfl
    rw [e, List.length_append, ih]
    simp [vcell]
    omega
theorem vcell_one (v : Vr) : ∀ u ∈ vcell v, u.oneCell' = true := by
  intro u hu
  simp only [vcell, List.mem_cons, List.not_mem_nil, or_false] at hu
  rcases hu with rfl | rfl | rfl | rfl <;> rfl
theorem vcs_one (l : List Vr) : ∀ u ∈ vcs l, u.oneCell' = true := by
  intro u hu
  simp only [vcs, List.mem_flatMap] at hu
  obtain ⟨x, _, hx⟩ := hu
  exact vcell_one x u hx
theorem vcs_get : ∀ {l : List Vr} {i : Nat} {x : Vr}, l[i]? = some x → (vcs l)[i * 4]? = some (.string (S x.name)) ∧ (vcs l)[i * 4 + 1]? = some (.string (S x.value)) ∧ (vcs l)[i * 4 + 2]? = some (.bool x.exp) ∧ (vcs l)[i * 4 + 3]? = some (.bool x.ro)
  | a :: l, 0, x, h => by
    obtain rfl := Option.some.inj h
    exact ⟨rfl, rfl, rfl, rfl⟩
  | a :: l, i + 1, x, h => by
    have ih := vcs_get (l := l) (i := i) (by simpa using h)
    rw [show (i + 1) * 4 = i * 4 + 4 by omega]
    exact ih
/-- How many names are less. -/
def pos (n : Txt) : List Vr → Nat
  | [] => 0
  | a :: r => if lt a.name n = true then pos n r + 1 else 0
def get (n : Txt) : List Vr → Option Vr
  | [] => none
  | a :: r => if lt a.name n = true then get n r else if a.name = n then some a else none
def ins (v : Vr) : List Vr → List Vr
  | [] => [v]
  | a :: r => if lt a.name v.name = true then a :: ins v r else if a.name = v.name then v :: r else v :: a :: r
def del (n : Txt) : List Vr → List Vr
  | [] => []
  | a :: r => if lt a.name n = true then a :: del n r else if a.name = n then r else a :: r
theorem pos_le (n : Txt) : ∀ l : List Vr, pos n l ≤ l.length
  | [] => Nat.le_refl _
  | a :: r => by
    have := pos_le n r
    simp only [pos, List.length_cons]
    split <;> omega
theorem get_pos (n : Txt) : ∀ l : List Vr, get n l = (match l[pos n l]? with
    | some v => if v.name = n then some v else none
    | none => none)
  | [] => rfl
  | a :: r => by
    have ih := get_pos n r
    simp only [pos, get]
    split
    · rw [ih]
      simp
    · rfl
theorem lt_pos {n : Txt} : ∀ {l : List Vr} {i : Nat} {v : Vr}, l[i]? = some v → i < pos n l → lt v.name n = true
  | a :: r, i, v, h, hi => by
    simp only [pos] at hi
    split at hi
    · cases i with
      | zero =>
        obtain rfl := Option.some.inj h
        assumption
      | succ i => exact lt_pos (l := r) (i := i) (by simpa using h) (by omega)
    · omega
theorem at_pos {n : Txt} : ∀ {l : List Vr} {v : Vr}, l[pos n l]? = some v → lt v.name n = false
  | a :: r, v, h => by
    simp only [pos] at h
    split at h
    · exact at_pos (l := r) (by simpa using h)
    · obtain rfl := Option.some.inj h
      rename_i h'
      simpa using h'
def Rising (l : List Vr) : Prop := l.Pairwise fun a b => lt a.name b.name = true
theorem ge_pos {n : Txt} {l : List Vr} (hs : Rising l) {i : Nat} {v : Vr} (h : l[i]? = some v) (hi : pos n l ≤ i) : lt v.name n = false := by
  rcases Nat.eq_or_lt_of_le hi with e | hlt
  · rw [← e] at h
    exact at_pos h
  · have hp := Nat.lt_of_lt_of_le hlt (Nat.le_of_lt (List.getElem?_eq_some_iff.1 h).1)
    have h1 : l[pos n l]? = some l[pos n l] := List.getElem?_eq_getElem hp
    have h2 := at_pos h1
    have hil := (List.getElem?_eq_some_iff.1 h).1
    have h3 := List.pairwise_iff_getElem.1 hs (pos n l) i hp hil hlt
    rw [(List.getElem?_eq_some_iff.1 h).2] at h3
    cases h4 : lt v.name n with
    | false => rfl
    | true => rw [lt_trans h3 h4] at h2; cases h2
theorem put_eq (v : Vr) : ∀ l : List Vr, l.take (pos v.name l) ++ [v] ++ l.drop (pos v.name l + if (get v.name l).isSome = true then 1 else 0) = ins v l
  | [] => rfl
  | a :: r => by
    have ih := put_eq v r
    simp only [pos, get, ins]
    split
    · rw [← ih, Nat.add_right_comm (pos _ _) 1, List.drop_succ_cons]
      rfl
    · split
      · rfl
      · rfl
theorem cut_eq (n : Txt) : ∀ l : List Vr, l.take (pos n l) ++ l.drop (pos n l + if (get n l).isSome = true then 1 else 0) = del n l
  | [] => rfl
  | a :: r => by
    have ih := cut_eq n r
    simp only [pos, get, del]
    split
    · rw [← ih, Nat.add_right_comm (pos _ _) 1, List.drop_succ_cons]
      rfl
    · split
      · rfl
      · rfl
theorem ins_mem {v u : Vr} : ∀ {l : List Vr}, u ∈ ins v l → u = v ∨ u ∈ l
  | [], h => by simpa [ins] using h
  | a :: r, h => by
    simp only [ins] at h
    split at h
    · rcases List.mem_cons.1 h with rfl | h
      · exact .inr List.mem_cons_self
      · exact (ins_mem h).imp id (List.mem_cons_of_mem _)
    · split at h
      · rcases List.mem_cons.1 h with rfl | h
        · exact .inl rfl
        · exact .inr (List.mem_cons_of_mem _ h)
      · rcases List.mem_cons.1 h with rfl | h
        · exact .inl rfl
        · exact .inr h
theorem del_mem {n : Txt} {u : Vr} : ∀ {l : List Vr}, u ∈ del n l → u ∈ l
  | [], h => h
  | a :: r, h => by
    simp only [del] at h
    split at h
    · rcases List.mem_cons.1 h with rfl | h
      · exact List.mem_cons_self
      · exact List.mem_cons_of_mem _ (del_mem h)
    · split at h
      · exact List.mem_cons_of_mem _ h
      · exact h
theorem ins_rising (v : Vr) : ∀ {l : List Vr}, Rising l → Rising (ins v l)
  | [], _ => by simp [ins, Rising]
  | a :: r, h => by
    have h1 := (List.pairwise_cons.1 h).1
    have h2 := (List.pairwise_cons.1 h).2
    simp only [ins]
    split
    · rename_i hlt
      refine List.pairwise_cons.2 ⟨fun u hu => ?_, ins_rising v h2⟩
      rcases ins_mem hu with rfl | hu
      · exact hlt
      · exact h1 u hu
    · split
      · rename_i he
        exact List.pairwise_cons.2 ⟨fun u hu => he ▸ h1 u hu, h2⟩
      · rename_i hn he
        have hva : lt v.name a.name = true := lt_tri (by simpa using hn) he
        refine List.pairwise_cons.2 ⟨fun u hu => ?_, h⟩
        rcases List.mem_cons.1 hu with rfl | hu
        · exact hva
        · exact lt_trans hva (h1 u hu)
theorem del_rising (n : Txt) : ∀ {l : List Vr}, Rising l → Rising (del n l)
  | [], h => h
  | a :: r, h => by
    have h1 := (List.pairwise_cons.1 h).1
    have h2 := (List.pairwise_cons.1 h).2
    simp only [del]
    split
    · exact List.pairwise_cons.2 ⟨fun u hu => h1 u (del_mem hu), del_rising n h2⟩
    · split
      · exact h2
      · exact h
theorem get_ins (v : Vr) : ∀ l : List Vr, get v.name (ins v l) = some v
  | [] => by simp [ins, get, lt_irrefl]
  | a :: r => by
    simp only [ins]
    split
    · rename_i h
      rw [get, if_pos h]
      exact get_ins v r
    · split
      · simp [get, lt_irrefl]
      · simp [get, lt_irrefl]
theorem get_ins_other (v : Vr) {o : Txt} (ho : o ≠ v.name) : ∀ l : List Vr, get o (ins v l) = get o l
  | [] => by simp [ins, get, Ne.symm ho]
  | a :: r => by
    have ih := get_ins_other v ho r
    simp only [ins]
    split
    · simp only [get, ih]
    · split
      · rename_i he
        simp only [get, he, if_neg (Ne.symm ho)]
      · rename_i hn he
        have hva : lt v.name a.name = true := lt_tri (by simpa using hn) he
        rw [get]
        split
        · rfl
        · rename_i hvo
          rw [if_neg (Ne.symm ho)]
          have hov : lt o v.name = true := lt_tri (by simpa using hvo) (Ne.symm ho)
          have hoa := lt_trans hov hva
          rw [get, if_neg, if_neg]
          · rintro rfl
            rw [lt_irrefl] at hoa
            cases hoa
          · intro h
            have := lt_trans h hoa
            rw [lt_irrefl] at this
            cases this
theorem ins_length (v : Vr) : ∀ l : List Vr, (ins v l).length = l.length + if (get v.name l).isSome = true then 0 else 1
  | [] => rfl
  | a :: r => by
    have ih := ins_length v r
    simp only [ins, get]
    split
    · simp only [List.length_cons, ih]
      omega
    · split
      · simp
      · simp
theorem del_length (n : Txt) : ∀ l : List Vr, (del n l).length + (if (get n l).isSome = true then 1 else 0) = l.length
  | [] => rfl
  | a :: r => by
    have ih := del_length n r
    simp only [del, get]
    split
    · simp only [List.length_cons]
      omega
    · split
      · simp
      · simp
theorem get_del (n : Txt) : ∀ {l : List Vr}, Rising l → get n (del n l) = none
  | [], _ => rfl
  | a :: r, h => by
    have h1 := (List.pairwise_cons.1 h).1
    have h2 := (List.pairwise_cons.1 h).2
    simp only [del]
    split
    · rename_i hl
      rw [get, if_pos hl]
      exact get_del n h2
    · split
      · rename_i he
        subst he
        cases r with
        | nil => rfl
        | cons b r =>
          have hab := h1 b List.mem_cons_self
          rw [get, if_neg, if_neg]
          · intro e
            rw [e, lt_irrefl] at hab
            cases hab
          · intro hb
            have := lt_trans hab hb
            rw [lt_irrefl] at this
            cases this
      · rename_i hl he
        rw [get, if_neg hl, if_neg he]
theorem del_none (n : Txt) : ∀ {l : List Vr}, get n l = none → del n l = l
  | [], _ => rfl
  | a :: r, h => by
    simp only [get] at h
    simp only [del]
    split
    · rename_i hl
      rw [if_pos hl] at h
      rw [del_none n h]
    · rename_i hl
      rw [if_neg hl] at h
      split
      · rename_i he
        rw [if_pos he] at h
        cases h
      · rfl
theorem get_name {n : Txt} : ∀ {l : List Vr} {v : Vr}, get n l = some v → v.name = n ∧ v ∈ l
  | a :: r, v, h => by
    simp only [get] at h
    split at h
    · exact ⟨(get_name h).1, List.mem_cons_of_mem _ (get_name h).2⟩
    · split at h
      · obtain rfl := Option.some.inj h
        exact ⟨by assumption, List.mem_cons_self⟩
      · cases h
/-! ### What the acts come to -/
def getD (n : Txt) (l : List Vr) : Vr := (get n l).getD Vr.zero
def setR (l : List Vr) (n x : Txt) : List Vr × Int := if isName n = true then (if (getD n l).ro = true then ([], 150) else (ins ⟨n, x, (getD n l).exp, (getD n l).ro⟩ l, 0)) else ([], 1)
def markR (l : List Vr) (n : Txt) (e r : Bool) : List Vr × Int := if isName n = true then (ins ⟨n, (getD n l).value, (getD n l).exp || e, (getD n l).ro || r⟩ l, 0) else ([], 1)
def unsetR (l : List Vr) (n : Txt) : List Vr × Int := if (getD n l).ro = true then ([], 150) else (del n l, 0)
def environ (l : List Vr) : List Txt := (l.filter (·.exp)).map fun v => v.name ++ [61] ++ v.value
end Go.Proofs.YtgincpkggnndeaaGreatDoor
