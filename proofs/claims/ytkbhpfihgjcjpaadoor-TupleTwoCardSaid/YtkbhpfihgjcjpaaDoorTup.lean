/- Tuples: the plain law. Conditions: none; no program is named. -/
import Derived.Test.YtkbhpfihgjcjpaaDoorNum
import Derived.Test.YtkbhpfihgjcjpaaDoorStrs
import Derived.Lib.Bytealg
namespace Go.Proofs.YtkbhpfihgjcjpaaDoor
open Go.RowKit Vc

def colon (s : Txt) : Nat := (s.takeWhile (fun c => c != 58)).length
theorem colon_cons (c : UInt8) (s : Txt) : colon (c :: s) = if c = 58 then 0 else colon s + 1 := by
  unfold colon
  rw [List.takeWhile_cons]
  by_cases h : c = 58
  · simp [h]
  · simp [h]
theorem colon_le : ∀ s : Txt, colon s ≤ s.length
  | [] => Nat.le_refl _
  | c :: s => by
    rw [colon_cons]
    split
    · exact Nat.zero_le _
    · have := colon_le s
      simp only [List.length_cons]
      omega
theorem colon_at : ∀ {s : Txt} {k : Nat}, k < colon s → ∃ c, s[k]? = some c ∧ c ≠ 58
  | [], k, h => by simp [colon] at h
  | c :: s, k, h => by
    rw [colon_cons] at h
    split at h
    · omega
    · rename_i hc
      cases k with
      | zero => exact ⟨c, rfl, hc⟩
      | succ k => simpa using colon_at (s := s) (k := k) (by omega)
theorem colon_hit : ∀ {s : Txt}, colon s < s.length → s[colon s]? = some 58
  | [], h => by simp at h
  | c :: s, h => by
    rw [colon_cons] at h ⊢
    split
    · rename_i hc
      simp [hc]
    · rename_i hc
      rw [if_neg hc] at h
      simp only [List.length_cons] at h
      simpa using colon_hit (s := s) (by omega)
theorem colon_eq {s : Txt} {k : Nat} (h : s[k]? = some 58) (hl : ∀ j, j < k → s[j]? ≠ some 58) : colon s = k := by
  induction s generalizing k with
  | nil => simp at h
  | cons c s ih =>
    rw [colon_cons]
    cases k with
    | zero =>
      simp at h
      rw [if_pos h]
    | succ k =>
      have hc : c ≠ 58 := fun e => hl 0 (by omega) (by simp [e])
      rw [if_neg hc, ih (by simpa using h) (fun j hj => by simpa using hl (j + 1) (by omega))]
theorem index_colon : ∀ s : Txt, Lib.indexByte s 58 = if colon s < s.length then (colon s : Int) else -1
  | [] => by simp [Lib.indexByte]
  | c :: s => by
    have ih := index_colon s
    rw [colon_cons]
    by_cases hc : c = 58
    · simp [Lib.indexByte, hc]
    · rw [if_neg hc, List.length_cons]
      simp only [Lib.indexByte, beq_iff_eq, hc, if_false, ih]
      by_cases h : colon s < s.length
      · have h2 : ¬ ((colon s : Int) = -1) := by omega
        simp only [h, if_true, h2, if_false]
        rw [if_pos (by omega)]
        omega
      · simp only [h, if_false, if_true]
        rw [if_neg (by omega)]
def step (s : Txt) : Option (Txt × Txt) := match numR (s.take (colon s)) with
  | none => none
  | some n => if s[colon s + 1 + n]? = some 44 then some ((s.drop (colon s + 1)).take n, s.drop (colon s + 2 + n)) else none
def decT : Nat → Txt → List Txt → Option (List Txt)
  | 0, _, _ => none
  | f + 1, s, acc => if s = [] then some acc else match step s with
    | none => none
    | some (x, r) => decT f r (acc ++ [x])
def decode (s : Txt) : Option (List Txt) := decT (s.length + 1) s []
def one (x : Txt) : Txt := ((dec x.length ++ [58]) ++ x) ++ [44]
def encode (l : List Txt) : Txt := (l.map one).flatten
theorem encode_append (l m : List Txt) : encode (l ++ m) = encode l ++ encode m := by simp [encode]
theorem encode_cons (x : Txt) (m : List Txt) : encode (x :: m) = one x ++ encode m := by simp [encode]
theorem step_form {s x r : Txt} (h : step s = some (x, r)) : one x ++ r = s ∧ r.length < s.length ∧ x.length < s.length ∧ x.length + 1 + r.length ≤ s.length := by
  unfold step at h
  split at h
  · cases h
  · rename_i n hn
    split at h
    · rename_i h44
      injection h with h
      injection h with hx hr
      obtain ⟨hd, h9⟩ := numR_some hn
      have hlt := (List.getElem?_eq_some_iff.1 h44).1
      have hc := colon_hit (s := s) (by omega)
      have hxl : x.length = n := by rw [← hx, List.length_take, List.length_drop]; omega
      have e : s = s.take (colon s) ++ 58 :: ((s.drop (colon s + 1)).take n ++ 44 :: s.drop (colon s + 2 + n)) := by
        obtain ⟨g1, g2⟩ := List.getElem?_eq_some_iff.1 hc
        obtain ⟨g3, g4⟩ := List.getElem?_eq_some_iff.1 h44
        conv => lhs; rw [← List.take_append_drop (colon s) s]
        rw [List.drop_eq_getElem_cons g1, g2]
        have e2 : s.drop (colon s + 1) = (s.drop (colon s + 1)).take n ++ (s.drop (colon s + 1)).drop n := (List.take_append_drop _ _).symm
        rw [List.drop_drop] at e2
        conv => lhs; rw [e2]
        rw [List.drop_eq_getElem_cons g3, g4]
        rw [show colon s + 1 + n + 1 = colon s + 2 + n by omega]
      refine ⟨?_, by rw [← hr, List.length_drop]; omega, by omega, by rw [hxl, ← hr, List.length_drop]; omega⟩
      unfold one
      rw [hxl, hd, ← hx, ← hr]
      conv => rhs; rw [e]
      simp
    · cases h
theorem step_one {x : Txt} (hx : (dec x.length).length ≤ 9) (r : Txt) : step (one x ++ r) = some (x, r) := by
  have e : one x ++ r = dec x.length ++ (58 :: (x ++ 44 :: r)) := by simp [one]
  rw [e]
  have hc : colon (dec x.length ++ (58 :: (x ++ 44 :: r))) = (dec x.length).length := by
    refine colon_eq (by simp) (fun j hj hh => ?_)
    rw [List.getElem?_append_left hj] at hh
    have hd := (dec_digs x.length).1
    have := List.all_eq_true.1 hd _ (List.mem_of_getElem? hh)
    revert this
    decide
  unfold step
  rw [hc, List.take_left, numR_dec hx]
  dsimp only
  have h1 : (dec x.length ++ (58 :: (x ++ 44 :: r)))[(dec x.length).length + 1 + x.length]? = some 44 := by
    rw [List.getElem?_append_right (by omega), show (dec x.length).length + 1 + x.length - (dec x.length).length = x.length + 1 by omega]
    simp
  rw [if_pos h1]
  have h2 : (dec x.length ++ (58 :: (x ++ 44 :: r))).drop ((dec x.length).length + 1) = x ++ 44 :: r := by
    rw [← List.drop_drop, List.drop_left]; rfl
  have h3 : (dec x.length ++ (58 :: (x ++ 44 :: r))).drop ((dec x.length).length + 2 + x.length) = r := by
    rw [show (dec x.length).length + 2 + x.length = (dec x.length).length + 1 + (x.length + 1) by omega, ← List.drop_drop, h2, ← List.drop_drop, List.drop_left]; rfl
  rw [h2, h3, List.take_left]
theorem one_ne (x : Txt) : one x ≠ [] := by simp [one]
theorem decT_encode : ∀ (l : List Txt) (f : Nat) (acc : List Txt), (∀ x ∈ l, (dec x.length).length ≤ 9) → (encode l).length < f → decT f (encode l) acc = some (acc ++ l)
  | [], f, acc, _, hf => by
    cases f with
    | zero => simp at hf
    | succ f => simp [decT, encode]
  | x :: l, f, acc, h, hf => by
    rw [encode_cons] at hf ⊢
    cases f with
    | zero => simp at hf
    | succ f =>
      have h0 : one x ++ encode l ≠ [] := by simp [one_ne]
      have hp : 0 < (one x).length := List.length_pos_iff.2 (one_ne x)
      rw [List.length_append] at hf
      simp only [decT]
      rw [if_neg h0, step_one (h x (by simp))]
      dsimp only
      rw [decT_encode l f (acc ++ [x]) (fun y hy => h y (by simp [hy])) (by omega), List.append_assoc]
      rfl
theorem decode_encode {l : List Txt} (h : ∀ x ∈ l, (dec x.length).length ≤ 9) : decode (encode l) = some l := by
  unfold decode
  rw [decT_encode l _ [] h (Nat.lt_succ_self _)]
  rfl
theorem decT_some : ∀ {f : Nat} {s : Txt} {acc l : List Txt}, decT f s acc = some l → encode l = encode acc ++ s
  | 0, _, _, _, h => by cases h
  | f + 1, s, acc, l, h => by
    simp only [decT] at h
    split at h
    · rename_i hs
      injection h with h
      rw [h, hs, List.append_nil]
    · split at h
      · cases h
      · rename_i x r hst
        have := decT_some h
        rw [this, encode_append, ← (step_form hst).1]
        simp [encode]
theorem encode_decode {s : Txt} {l : List Txt} (h : decode s = some l) : encode l = s := by
  have := decT_some h
  simpa [encode] using this
theorem encode_inj {l m : List Txt} (hl : ∀ x ∈ l, (dec x.length).length ≤ 9) (hm : ∀ x ∈ m, (dec x.length).length ≤ 9) : encode l = encode m ↔ l = m := by
  constructor
  · intro h
    have h1 := decode_encode hl
    rw [h, decode_encode hm] at h1
    exact (Option.some.inj h1).symm
  · intro h
    rw [h]
/-- What the law counts. -/
def total (l : List Txt) : Nat := (l.map fun x => x.length + 1).sum
theorem total_snoc (l : List Txt) (x : Txt) : total (l ++ [x]) = total l + (x.length + 1) := by simp [total]
theorem total_cons (x : Txt) (l : List Txt) : total (x :: l) = x.length + 1 + total l := by simp [total]
theorem total_take_le (l : List Txt) (k : Nat) : total (l.take k) ≤ total l := by
  have := congrArg total (List.take_append_drop k l)
  have h : ∀ a b : List Txt, total (a ++ b) = total a + total b := by intro a b; simp [total]
  rw [h] at this
  omega
theorem total_mem {l : List Txt} {x : Txt} (h : x ∈ l) : x.length + 1 ≤ total l := by
  induction l with
  | nil => cases h
  | cons y l ih =>
    rw [total_cons]
    rcases List.mem_cons.1 h with rfl | h
    · omega
    · have := ih h
      omega
theorem total_length (l : List Txt) : l.length ≤ total l := by
  induction l with
  | nil => simp [total]
  | cons y l ih => rw [total_cons]; simp only [List.length_cons]; omega
theorem few_nine {l : List Txt} (h : total l ≤ 100000) : ∀ x ∈ l, (dec x.length).length ≤ 9 := fun x hx => dec_len9 (by have := total_mem hx; omega)
theorem encode_len {l : List Txt} (h : ∀ x ∈ l, (dec x.length).length ≤ 9) : (encode l).length ≤ 11 * total l := by
  induction l with
  | nil => simp [encode]
  | cons x l ih =>
    rw [encode_cons, total_cons, List.length_append]
    have := ih (fun y hy => h y (by simp [hy]))
    have := h x (by simp)
    simp only [one, List.length_append, List.length_cons, List.length_nil]
    omega
theorem decT_total : ∀ {f : Nat} {s : Txt} {acc l : List Txt}, decT f s acc = some l → total l ≤ total acc + s.length
  | 0, _, _, _, h => by cases h
  | f + 1, s, acc, l, h => by
    simp only [decT] at h
    split at h
    · injection h with h
      rw [h]
      omega
    · split at h
      · cases h
      · rename_i x r hst
        have h1 := decT_total h
        have h2 := (step_form hst).2.2.2
        rw [total_snoc] at h1
        omega
theorem decode_total {s : Txt} {l : List Txt} (h : decode s = some l) : total l ≤ s.length := by
  have := decT_total h
  simpa [total] using this
end Go.Proofs.YtkbhpfihgjcjpaaDoor
