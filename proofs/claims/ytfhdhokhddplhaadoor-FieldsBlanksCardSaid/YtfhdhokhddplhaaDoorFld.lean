/- Fields: what pieces become. Plain law; no program is named. Conditions: as each theorem names them. -/
import Derived.Test.YtfhdhokhddplhaaDoorReplace
import Derived.Test.YtfhdhokhddplhaaDoorStrs
namespace Go.Proofs.YtfhdhokhddplhaaDoor
open Go.RowKit Vc

def active (s : Txt) : Txt := replB 92 [92, 92] s
def escape (s : Txt) : Txt := s.flatMap fun c => [92, c]
theorem active_append (s t : Txt) : active (s ++ t) = active s ++ active t := replB_append _ _ _ _
theorem active_ne {c : UInt8} : active [c] ≠ [] := by
  unfold active replB
  simp only [List.flatMap_cons, List.flatMap_nil, List.append_nil]
  split <;> simp
theorem active_len (s : Txt) : (active s).length ≤ 2 * s.length := by
  have h := replB_length (c := 92) (nw := [92, 92]) s
  have := count_le (c := 92) s
  simp only [List.length_cons, List.length_nil] at h
  unfold active
  omega
theorem escape_len (s : Txt) : (escape s).length = 2 * s.length := by
  unfold escape
  induction s with
  | nil => rfl
  | cons a r ih => simp only [List.flatMap_cons, List.length_append, ih, List.length_cons, List.length_nil]; omega
/-- A piece. -/
structure Sg where
  kind : Nat
  text : Txt
/-- Fields so far. -/
structure St where
  out : List Txt
  cur : Txt
  has : Bool
  gap : Bool
def St.zero : St := ⟨[], [], false, false⟩
def St.put (x : St) (p : Txt) : St := ⟨x.out, x.cur ++ p, true, false⟩
def St.fin (x : St) : St := ⟨x.out ++ [x.cur], [], false, x.gap⟩
def St.mark (x : St) (g : Bool) : St := ⟨x.out, x.cur, x.has, g⟩
def blank (c : UInt8) : Bool := decide (c = 32) || decide (c = 9) || decide (c = 10)
def stepC (ifs : Txt) (x : St) (c : UInt8) : St :=
  if decide (c ∈ ifs) = true then
    if blank c = true then (if x.has = true then x.fin.mark true else x)
    else if x.has = true ∨ x.gap = false then x.fin.mark false else x.mark false
  else x.put (active [c])
def splitS (ifs : Txt) (x : St) (s : Txt) : St := s.foldl (stepC ifs) x
def takeS (ifs : Txt) (x : St) (p : Sg) : St :=
  if p.kind = 0 then (if p.text = [] then x else x.put (active p.text))
  else if p.kind = 1 then x.put (escape p.text)
  else if p.kind = 2 then splitS ifs x p.text
  else if p.kind = 3 then (if x.has = true then x.fin.mark false else x.mark false)
  else x
def endS (x : St) : List Txt := if x.has = true then x.fin.out else x.out
def allS (ifs : Txt) (l : List Sg) : St := l.foldl (takeS ifs) St.zero
def fieldsR (ifs : Txt) (l : List Sg) : List Txt := endS (allS ifs l)
def joinOne (p : Bool) (x : Sg) : Txt := if x.kind = 3 then [32] else if p = true then (if x.kind = 1 then escape x.text else active x.text) else x.text
def joined (p : Bool) (l : List Sg) : Txt := l.flatMap (joinOne p)

/-! ### How much there is -/
def St.size (x : St) : Nat := (x.out.map (fun t => t.length + 1)).sum + x.cur.length
theorem St.size_put (x : St) (p : Txt) : (x.put p).size = x.size + p.length := by simp [St.size, St.put]; omega
theorem St.size_fin (x : St) : x.fin.size = x.size + 1 := by simp [St.size, St.fin]; omega
theorem St.size_mark (x : St) (g : Bool) : (x.mark g).size = x.size := rfl
theorem stepC_size (ifs : Txt) (x : St) (c : UInt8) : (stepC ifs x c).size ≤ x.size + 2 := by
  unfold stepC
  have h1 := active_len [c]
  simp only [List.length_cons, List.length_nil] at h1
  repeat' split
  all_goals try simp only [St.size_mark, St.size_fin, St.size_put]
  all_goals omega
theorem splitS_size (ifs : Txt) : ∀ (s : Txt) (x : St), (splitS ifs x s).size ≤ x.size + 2 * s.length
  | [], x => Nat.le_refl _
  | c :: s, x => by
    have h1 := stepC_size ifs x c
    have h2 := splitS_size ifs s (stepC ifs x c)
    simp only [splitS, List.foldl_cons, List.length_cons] at h2 ⊢
    omega
theorem takeS_size (ifs : Txt) (x : St) (p : Sg) : (takeS ifs x p).size ≤ x.size + 2 * p.text.length + 1 := by
  unfold takeS
  have h1 := active_len p.text
  have h2 := escape_len p.text
  have h3 := splitS_size ifs p.text x
  repeat' split
  all_goals try simp only [St.size_mark, St.size_fin, St.size_put]
  all_goals omega
theorem out_few (x : St) : x.out.length ≤ x.size := by
  unfold St.size
  have : ∀ l : List Txt, l.length ≤ (l.map (fun t => t.length + 1)).sum := by
    intro l
    induction l with
    | nil => exact Nat.le_refl _
    | cons a l ih => simp only [List.map_cons, List.sum_cons, List.length_cons]; omega
  have := this x.out
  omega
theorem cur_few (x : St) : x.cur.length ≤ x.size := Nat.le_add_left _ _

/-! ### The laws -/
/-- With no sign that parts: one field at most. -/
theorem splitS_none : ∀ (s : Txt) (x : St), splitS [] x s = if s = [] then x else x.put (active s)
  | [], x => rfl
  | c :: s, x => by
    have h : stepC [] x c = x.put (active [c]) := by simp [stepC]
    have ih := splitS_none s (x.put (active [c]))
    simp only [splitS, List.foldl_cons, h] at ih ⊢
    rw [ih, if_neg (show ¬ c :: s = [] by simp)]
    by_cases hs : s = []
    · rw [if_pos hs, hs]
    · rw [if_neg hs]
      have e : active (c :: s) = active [c] ++ active s := active_append [c] s
      rw [e]
      simp [St.put]
theorem whole_inv : ∀ (l : List Sg) (x : St), (∀ p ∈ l, p.kind ≠ 3) → (∀ p ∈ l, p.kind < 4) → x.out = [] → (x.has = false → x.cur = []) →
    (l.foldl (takeS []) x).out = [] ∧ (l.foldl (takeS []) x).cur = x.cur ++ joined true l ∧ ((l.foldl (takeS []) x).has = false → (l.foldl (takeS []) x).cur = [])
  | [], x, _, _, h1, h2 => ⟨h1, by simp [joined], h2⟩
  | p :: l, x, hk, hk4, h1, h2 => by
    have hp3 := hk p List.mem_cons_self
    have hp4 := hk4 p List.mem_cons_self
    have key : (takeS [] x p).out = [] ∧ (takeS [] x p).cur = x.cur ++ joinOne true p ∧ ((takeS [] x p).has = false → (takeS [] x p).cur = []) := by
      have nil : p.text = [] → x.out = [] ∧ x.cur = x.cur ++ active p.text ∧ (x.has = false → x.cur = []) := fun ht => by
        rw [ht]
        exact ⟨h1, by simp [active, replB], h2⟩
      rcases (by omega : p.kind = 0 ∨ p.kind = 1 ∨ p.kind = 2) with h | h | h
      · have e1 : takeS [] x p = if p.text = [] then x else x.put (active p.text) := by unfold takeS; rw [if_pos h]
        have e2 : joinOne true p = active p.text := by unfold joinOne; rw [if_neg hp3, if_pos rfl, if_neg (by rw [h]; decide)]
        rw [e1, e2]
        by_cases ht : p.text = []
        · rw [if_pos ht]
          exact nil ht
        · rw [if_neg ht]
          exact ⟨h1, rfl, fun h => by cases h⟩
      · have e1 : takeS [] x p = x.put (escape p.text) := by unfold takeS; rw [if_neg (by rw [h]; decide), if_pos h]
        have e2 : joinOne true p = escape p.text := by unfold joinOne; rw [if_neg hp3, if_pos rfl, if_pos h]
        rw [e1, e2]
        exact ⟨h1, rfl, fun h => by cases h⟩
      · have e1 : takeS [] x p = if p.text = [] then x else x.put (active p.text) := by unfold takeS; rw [if_neg (by rw [h]; decide), if_neg (by rw [h]; decide), if_pos h, splitS_none]
        have e2 : joinOne true p = active p.text := by unfold joinOne; rw [if_neg hp3, if_pos rfl, if_neg (by rw [h]; decide)]
        rw [e1, e2]
        by_cases ht : p.text = []
        · rw [if_pos ht]
          exact nil ht
        · rw [if_neg ht]
          exact ⟨h1, rfl, fun h => by cases h⟩
    obtain ⟨k1, k2, k3⟩ := key
    obtain ⟨r1, r2, r3⟩ := whole_inv l (takeS [] x p) (fun q hq => hk q (List.mem_cons_of_mem _ hq)) (fun q hq => hk4 q (List.mem_cons_of_mem _ hq)) k1 k3
    refine ⟨r1, ?_, r3⟩
    rw [List.foldl_cons, r2, k2]
    simp [joined]
theorem whole_law {l : List Sg} (hk : ∀ p ∈ l, p.kind ≠ 3) (hk4 : ∀ p ∈ l, p.kind < 4) : (fieldsR [] l = [] ∧ joined true l = []) ∨ fieldsR [] l = [joined true l] := by
  obtain ⟨h1, h2, h3⟩ := whole_inv l St.zero hk hk4 rfl (fun _ => rfl)
  unfold fieldsR endS allS
  cases h : (l.foldl (takeS []) St.zero).has with
  | false =>
    rw [if_neg (by decide)]
    refine .inl ⟨h1, ?_⟩
    have := h3 h
    rw [h2] at this
    simpa [St.zero] using this
  | true =>
    rw [if_pos rfl]
    refine .inr ?_
    show (List.foldl (takeS []) St.zero l).out ++ [(List.foldl (takeS []) St.zero l).cur] = _
    rw [h1, h2]
    rfl
def blanks : Txt := [32, 9, 10]
theorem blank_in (c : UInt8) : decide (c ∈ blanks) = blank c := by
  simp only [blanks, List.mem_cons, List.not_mem_nil, or_false, blank]
  by_cases h1 : c = 32 <;> by_cases h2 : c = 9 <;> by_cases h3 : c = 10 <;> simp [h1, h2, h3]
def NoEmpty (x : St) : Prop := (∀ t ∈ x.out, t ≠ []) ∧ (x.has = true → x.cur ≠ [])
theorem stepC_noEmpty {x : St} (h : NoEmpty x) (c : UInt8) : NoEmpty (stepC blanks x c) := by
  unfold stepC
  rw [blank_in]
  by_cases hb : blank c = true
  · rw [if_pos hb, if_pos hb]
    split
    · rename_i hh
      refine ⟨?_, fun h => by cases h⟩
      intro t ht
      rcases List.mem_append.1 ht with ht | ht
      · exact h.1 t ht
      · rw [List.mem_singleton.1 ht]
        exact h.2 hh
    · exact h
  · rw [if_neg hb]
    refine ⟨h.1, fun _ e => ?_⟩
    exact active_ne (List.append_eq_nil_iff.1 e).2
theorem splitS_noEmpty : ∀ (s : Txt) {x : St}, NoEmpty x → NoEmpty (splitS blanks x s)
  | [], _, h => h
  | c :: s, _, h => splitS_noEmpty s (stepC_noEmpty h c)
theorem endS_noEmpty {x : St} (h : NoEmpty x) : ∀ t ∈ endS x, t ≠ [] := by
  unfold endS
  split
  · rename_i hh
    intro t ht
    rcases List.mem_append.1 ht with ht | ht
    · exact h.1 t ht
    · rw [List.mem_singleton.1 ht]
      exact h.2 hh
  · exact h.1
theorem fields_one (ifs s : Txt) : fieldsR ifs [⟨2, s⟩] = endS (splitS ifs St.zero s) := rfl
theorem blanks_noEmpty (s : Txt) : ∀ t ∈ fieldsR blanks [⟨2, s⟩], t ≠ [] := endS_noEmpty (splitS_noEmpty s ⟨by simp [St.zero], fun h => by cases h⟩)
theorem splitS_append (ifs : Txt) (x : St) (s t : Txt) : splitS ifs x (s ++ t) = splitS ifs (splitS ifs x s) t := by simp [splitS]
theorem endS_tail (x : St) : endS (splitS blanks x [9, 32]) = endS x := by
  have h9 : decide ((9 : UInt8) ∈ blanks) = true := by decide
  have h32 : decide ((32 : UInt8) ∈ blanks) = true := by decide
  have b9 : blank 9 = true := by decide
  have b32 : blank 32 = true := by decide
  cases hx : x.has with
  | false =>
    have e : stepC blanks x 9 = x := by unfold stepC; rw [if_pos h9, if_pos b9, if_neg (by rw [hx]; decide)]
    have e2 : stepC blanks x 32 = x := by unfold stepC; rw [if_pos h32, if_pos b32, if_neg (by rw [hx]; decide)]
    simp only [splitS, List.foldl_cons, List.foldl_nil, e, e2]
  | true =>
    have e : stepC blanks x 9 = x.fin.mark true := by unfold stepC; rw [if_pos h9, if_pos b9, if_pos hx]
    have e2 : stepC blanks (x.fin.mark true) 32 = x.fin.mark true := by unfold stepC; rw [if_pos h32, if_pos b32, if_neg (by simp [St.fin, St.mark])]
    simp only [splitS, List.foldl_cons, List.foldl_nil, e, e2]
    unfold endS
    rw [if_pos hx, if_neg (by simp [St.fin, St.mark])]
    rfl
theorem blanks_about (s : Txt) : fieldsR blanks [⟨2, [32, 10] ++ s ++ [9, 32]⟩] = fieldsR blanks [⟨2, s⟩] := by
  rw [fields_one, fields_one, splitS_append, splitS_append, endS_tail]
  rfl
theorem literal_one (ifs t : Txt) : fieldsR ifs [⟨1, t⟩] = [escape t] := by simp [fieldsR, allS, takeS, St.zero, St.put, endS, St.fin]
end Go.Proofs.YtfhdhokhddplhaaDoor
