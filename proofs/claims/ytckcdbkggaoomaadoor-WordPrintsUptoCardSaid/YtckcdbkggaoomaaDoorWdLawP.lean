/- A text in quotes, and a text with a backslash ahead of each byte, are one quoted part. Plain law; no program is named. Conditions: none. -/
import Derived.Test.YtckcdbkggaoomaaDoorWdOkP
namespace Go.Proofs.YtckcdbkggaoomaaDoor

theorem quotes_law (s : Txt) : wpL 30 (single s) = .ok [tx true s] := by
  have := single_run (P := wpL 29) (x := []) s []
  rw [List.append_nil] at this
  show run (wpL 29) [] (single s) = _
  rw [this, run_nil]
  rfl
def backs (s : Txt) : Txt := s.flatMap fun c => [92, c]
theorem backs_take {s : Txt} {k : Nat} (h : k < s.length) : backs (s.take (k + 1)) = backs (s.take k) ++ ([92] ++ [s[k]]) := by
  unfold backs
  rw [List.take_add_one, List.getElem?_eq_getElem h, List.flatMap_append]
  rfl
theorem backs_len (s : Txt) : (backs s).length = 2 * s.length := by
  induction s with
  | nil => rfl
  | cons c r ih =>
    unfold backs at ih ⊢
    rw [List.flatMap_cons, List.length_append, ih]
    simp only [List.length_cons, List.length_nil]
    omega
theorem backs_one (P : Txt → Rs (List Pt)) (c : UInt8) (x : Txt) (acc : List Pt) : run P acc (92 :: c :: x) = run P (addP acc (tx true [c])) x := by
  have h2 : outOne P (92 :: c :: x) = .ok ([tx true [c]], 2) := by
    simp only [outOne]
    rw [if_neg (by decide), if_pos (by decide), show unitD 30 (92 :: c :: x) = some x from unit_back]
    rfl
  rw [run_cons h2]
  rfl
theorem backs_run (P : Txt → Rs (List Pt)) (x : Txt) : ∀ (s a : Txt) (acc : List Pt), run P (addP acc (tx true a)) (backs s ++ x) = run P (addP acc (tx true (a ++ s))) x
  | [], a, acc => by rw [List.append_nil]; rfl
  | c :: s, a, acc => by
    show run P (addP acc (tx true a)) (92 :: c :: (backs s ++ x)) = _
    rw [backs_one, addP_tx, backs_run P x s]
    simp
theorem quotes_run (P : Txt → Rs (List Pt)) (acc : List Pt) : run P acc [39, 39] = .ok (addP acc (tx true [])) := by
  have h := single_run (P := P) (x := []) [] acc
  rw [List.append_nil, run_nil] at h
  exact h
theorem backs_all (P : Txt → Rs (List Pt)) (s : Txt) : run P [] (backs s ++ [39, 39]) = .ok [tx true s] := by
  cases s with
  | nil => exact quotes_run P []
  | cons c s =>
    have h1 := backs_one P c (backs s ++ [39, 39]) []
    have h2 := backs_run P [39, 39] s [c] []
    have h3 := quotes_run P (addP [] (tx true ([c] ++ s)))
    rw [addP_tx, List.append_nil] at h3
    exact h1.trans (h2.trans h3)
theorem backs_law (s : Txt) : wpL 30 (backs s ++ [39, 39]) = .ok [tx true s] := backs_all (wpL 29) s
end Go.Proofs.YtckcdbkggaoomaaDoor
