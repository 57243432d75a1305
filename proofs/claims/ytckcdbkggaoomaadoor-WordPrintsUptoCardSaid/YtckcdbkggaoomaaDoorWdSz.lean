/- How much there is of parts: of those that are read, and of their text. Plain law; no program is named. Conditions: none. -/
import Derived.Test.YtckcdbkggaoomaaDoorWdAlg
namespace Go.Proofs.YtckcdbkggaoomaaDoor

mutual
def Pt.wt : Pt → Nat
  | .mk _ _ t n o w => 4 * t.length + n.length + o.length + 8 + wtL w
def wtL : List Pt → Nat
  | [] => 0
  | p :: r => p.wt + wtL r
end
theorem Pt.wt_eq (p : Pt) : p.wt = 4 * p.t.length + p.n.length + p.o.length + 8 + wtL p.w := by cases p; simp only [Pt.wt, Pt.t, Pt.n, Pt.o, Pt.w]
theorem wtL_append : ∀ a b : List Pt, wtL (a ++ b) = wtL a + wtL b
  | [], b => by simp [wtL]
  | p :: a, b => by simp only [List.cons_append, wtL, wtL_append a b]; omega
theorem wtL_one (p : Pt) : wtL [p] = p.wt := by simp [wtL]
theorem wtL_mem {p : Pt} : ∀ {l : List Pt}, p ∈ l → p.wt ≤ wtL l
  | a :: l, h => by
    rcases List.mem_cons.1 h with rfl | h
    · simp only [wtL]; omega
    · have := wtL_mem h
      simp only [wtL]; omega
theorem wtL_len : ∀ l : List Pt, 8 * l.length ≤ wtL l
  | [] => by simp
  | p :: l => by
    have h1 := wtL_len l
    have h2 := p.wt_eq
    simp only [wtL, List.length_cons]
    omega
theorem wt_add (l : List Pt) (p : Pt) : wtL (addP l p) ≤ wtL l + p.wt := by
  by_cases h : l = []
  · subst h
    rw [addP_nil]
    simp [wtL]
  · obtain ⟨m, x, rfl⟩ := snoc_of h
    rw [addP_snoc]
    split
    · have h1 := x.wt_eq
      have h2 := p.wt_eq
      simp only [wtL_append, wtL_one, Pt.wt, List.length_append]
      omega
    · simp only [wtL_append, wtL_one]
      omega
theorem wt_fold : ∀ (ps l : List Pt), wtL (ps.foldl addP l) ≤ wtL l + wtL ps
  | [], l => by simp [wtL]
  | p :: ps, l => by
    have h1 := wt_fold ps (addP l p)
    have h2 := wt_add l p
    simp only [List.foldl_cons, wtL]
    omega
mutual
theorem Pt.wt_qd : ∀ p : Pt, p.qd.wt ≤ p.wt
  | .mk k q t n o w => by
    have := wt_qdL w []
    simp only [Pt.qd, Pt.wt]
    simp only [wtL] at this
    omega
theorem wt_qdL : ∀ l acc : List Pt, wtL (qdL acc l) ≤ wtL acc + wtL l
  | [], acc => by simp [qdL, wtL]
  | p :: l, acc => by
    have h1 := wt_qdL l (addP acc p.qd)
    have h2 := wt_add acc p.qd
    have h3 := p.wt_qd
    simp only [qdL, wtL]
    omega
end
theorem single_len (t : Txt) : (single t).length ≤ 4 * t.length + 2 := by
  have : ∀ t : Txt, (t.flatMap fun b => if b = 39 then [39, 92, 39, 39] else [b]).length ≤ 4 * t.length := by
    intro t
    induction t with
    | nil => simp
    | cons a t ih =>
      rw [List.flatMap_cons, List.length_append, List.length_cons]
      split
      · simp only [List.length_cons, List.length_nil]; omega
      · simp only [List.length_cons, List.length_nil]; omega
  have := this t
  simp only [single, List.length_cons, List.length_append, List.length_nil]
  omega
mutual
theorem Pt.pr_len : ∀ p : Pt, p.pr.length ≤ p.wt
  | .mk k q t n o w => by
    have hw := prL_len w
    have hs := single_len t
    have hq : ∀ x : Txt, (wrapQ q x).length ≤ x.length + 2 := by
      intro x
      unfold wrapQ
      split
      · simp
      · omega
    simp only [Pt.pr, Pt.wt]
    split
    · split <;> omega
    · refine Nat.le_trans (hq _) ?_
      split
      · simp; omega
      · split
        · simp; omega
        · split
          · split
            · simp; omega
            · simp; omega
          · simp only [List.length_nil]; omega
theorem prL_len : ∀ l : List Pt, (prL l).length ≤ wtL l
  | [] => by simp [prL]
  | p :: l => by
    have h1 := p.pr_len
    have h2 := prL_len l
    simp only [prL, wtL, List.length_append]
    omega
end

/-! ### What is read -/
/-- What it takes bears what it gives. -/
def Bears (one : Txt → Rs (List Pt × Nat)) : Prop := ∀ s x, one s = .ok x → wtL x.1 ≤ 12 * x.2
def BearsL (P : Txt → Rs (List Pt)) : Prop := ∀ s l, P s = .ok l → wtL l ≤ 12 * s.length
theorem bracesF_wt {P : Txt → Rs (List Pt)} (hP : BearsL P) {q : Bool} {s : Txt} {p : Pt} (h : bracesF P q s = .ok p) : p.wt ≤ 12 * s.length + 12 := by
  unfold bracesF at h
  split at h
  · rename_i hc
    injection h with h
    rw [← h]
    simp only [Pt.wt, wtL, List.length_nil, List.length_drop, List.length_cons]
    omega
  · split at h
    · cases h
    · split at h
      · injection h with h
        have := paramN_le s
        rw [← h]
        simp only [Pt.wt, wtL, List.length_nil, List.length_take]
        omega
      · split at h
        · cases h
        · obtain ⟨w, h1, h⟩ := Rs.and_ok h
          split at h
          · cases h
          · injection h with h
            have h2 := hP _ _ h1
            have h3 := paramN_le s
            have h4 := opOf_len (s.drop (paramN s))
            have h5 := wt_qdL w []
            simp only [wtL] at h5
            rw [List.length_drop, List.length_drop] at h2
            rw [List.length_drop] at h4
            rw [← h]
            have h6 : wtL (if q = true then qdL [] w else w) ≤ wtL w := by
              split
              · omega
              · exact Nat.le_refl _
            simp only [Pt.wt, List.length_nil, List.length_take]
            omega
theorem dollarF_wt {P : Txt → Rs (List Pt)} (hP : BearsL P) {q : Bool} {r : Txt} {x : Pt × Nat} (h : dollarF P q (36 :: r) = .ok x) : x.1.wt ≤ 12 * x.2 := by
  unfold dollarF at h
  simp only [List.drop_succ_cons, List.drop_zero] at h
  split at h
  · split at h
    · cases h
    · rename_i t ht
      have hh : r.head? = some 40 ∨ r.head? = some 123 := by assumption
      have h1 : t.length + 3 ≤ (36 :: r).length := by
        obtain ⟨c, r2, rfl⟩ : ∃ c r2, r = c :: r2 := by
          cases r with
          | nil => rcases hh with e | e <;> cases e
          | cons c r2 => exact ⟨c, r2, rfl⟩
        rcases hh with e | e
        · obtain rfl : c = 40 := by simpa using e
          have ht : untilD 29 41 r2 = some t := ht
          have := untilD_takes _ _ _ _ ht
          simp only [List.length_cons]; omega
        · obtain rfl : c = 123 := by simpa using e
          have ht : untilD 29 125 r2 = some t := ht
          have := untilD_takes _ _ _ _ ht
          simp only [List.length_cons]; omega
      split at h
      · obtain ⟨p, h2, h⟩ := Rs.and_ok h
        injection h with h
        have h3 := bracesF_wt hP h2
        rw [List.length_take] at h3
        rw [← h]
        dsimp only
        omega
      · split at h
        · injection h with h
          rw [← h]
          simp only [Pt.wt, wtL, List.length_nil, List.length_take]
          omega
        · injection h with h
          rw [← h]
          simp only [Pt.wt, wtL, List.length_nil, List.length_take]
          omega
  · split at h
    · injection h with h
      have := nameN_le r
      rw [← h]
      simp only [Pt.wt, wtL, List.length_nil, List.length_take]
      omega
    · split at h
      · injection h with h
        rw [← h]
        simp only [Pt.wt, wtL, List.length_nil, List.length_take]
        omega
      · injection h with h
        rw [← h]
        simp [Pt.wt, wtL]
theorem tx_wt (q : Bool) (t : Txt) : (tx q t).wt = 4 * t.length + 8 := by simp [tx, Pt.wt, wtL]
theorem loopF_wt {one : Txt → Rs (List Pt × Nat)} (ht : Takes1 one) (hb : Bears one) : ∀ (n : Nat) (acc : List Pt) (s : Txt) (l : List Pt), loopF one n acc s = .ok l → wtL l ≤ wtL acc + 12 * s.length
  | 0, _, _, _, h => by cases h
  | n + 1, acc, [], l, h => by
    injection h with h
    rw [h]
    exact Nat.le_add_right _ _
  | n + 1, acc, c :: r, l, h => by
    simp only [loopF] at h
    obtain ⟨x, h1, h⟩ := Rs.and_ok h
    have h2 := ht _ _ h1
    have h3 := loopF_wt ht hb n _ _ _ h
    have h4 := wt_fold x.1 acc
    have h5 := hb _ _ h1
    rw [List.length_drop] at h3
    omega
theorem dblOne_bears {P : Txt → Rs (List Pt)} (hP : BearsL P) : Bears (dblOne P) := by
  intro s x h
  cases s with
  | nil => cases h
  | cons c r =>
    simp only [dblOne] at h
    split at h
    · rename_i hc
      subst hc
      obtain ⟨y, h1, h⟩ := Rs.and_ok h
      injection h with h
      have := dollarF_wt hP h1
      rw [← h]
      simpa [wtL] using this
    · split at h
      · injection h with h
        rw [← h]
        simp only [wtL, tx_wt, List.length_take]
        omega
      · injection h with h
        rw [← h]
        simp [wtL, tx_wt]
theorem dblF_wt {P : Txt → Rs (List Pt)} (hP : BearsL P) {s : Txt} {l : List Pt} (h : dblF P s = .ok l) : wtL l ≤ 12 * s.length + 8 := by
  unfold dblF at h
  split at h
  · injection h with h
    rw [← h]
    simp [wtL, tx_wt]
  · have := loopF_wt (dblOne_takes P) (dblOne_bears hP) _ _ _ _ h
    simp only [wtL] at this
    omega
theorem quote_len {c : UInt8} {r t : Txt} (hc : c = 39 ∨ c = 34) (h : unitD 30 (c :: r) = some t) : t.length + 1 ≤ r.length := by
  rcases hc with rfl | rfl
  · have : quoteEnd r = some t := h
    have := quoteEnd_length this
    omega
  · have : untilD 29 34 r = some t := h
    have := untilD_takes 29 34 _ _ this
    omega
theorem outOne_bears {P : Txt → Rs (List Pt)} (hP : BearsL P) : Bears (outOne P) := by
  intro s x h
  cases s with
  | nil => cases h
  | cons c r =>
    simp only [outOne] at h
    split at h
    · rename_i hc
      subst hc
      obtain ⟨y, h1, h⟩ := Rs.and_ok h
      injection h with h
      have := dollarF_wt hP h1
      rw [← h]
      simpa [wtL] using this
    · split at h
      · split at h
        · cases h
        · rename_i hc t ht
          split at h
          · injection h with h
            rw [← h]
            simp only [wtL, tx_wt, List.length_take]
            omega
          · rename_i h92
            have hq := quote_len (Or.resolve_left (by assumption) h92) ht
            split at h
            · obtain ⟨l, h3, h⟩ := Rs.and_ok h
              injection h with h
              have h4 := dblF_wt hP h3
              rw [List.length_take] at h4
              rw [← h]
              dsimp only
              omega
            · injection h with h
              rw [← h]
              simp only [wtL, tx_wt, List.length_take]
              omega
      · injection h with h
        rw [← h]
        simp [wtL, tx_wt]
theorem wpL_wt : ∀ L : Nat, BearsL (wpL L)
  | 0 => fun s l h => by cases h
  | L + 1 => fun s l h => by
    have := loopF_wt (outOne_takes _) (outOne_bears (wpL_wt L)) _ _ _ _ h
    simpa [wtL] using this
end Go.Proofs.YtckcdbkggaoomaaDoor
