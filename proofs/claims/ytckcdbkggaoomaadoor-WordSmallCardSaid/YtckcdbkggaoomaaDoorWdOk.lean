/- Parts that stand as a parser leaves them; their text, parsed, is these parts again. Plain law; no program is named. Conditions: none. -/
import Derived.Test.YtckcdbkggaoomaaDoorLxFew
import Derived.Test.YtckcdbkggaoomaaDoorWdAlg
namespace Go.Proofs.YtckcdbkggaoomaaDoor

/-- Nothing that a dollar ahead of it would begin something with. -/
def NoD (r : Txt) : Prop := ∀ c y, r = c :: y → isLet c = false ∧ isSpec c = false ∧ c ≠ 40 ∧ c ≠ 123
def Bare (b : Bool) : Txt → Prop
  | [] => True
  | c :: r => (c ≠ 92 ∧ c ≠ 39 ∧ c ≠ 34 ∧ (b = true → c ≠ 125)) ∧ (c = 36 → NoD r) ∧ Bare b r
/-- The first byte of parts, if it stands bare. -/
def hd : List Pt → Option UInt8
  | p :: _ => if p.k = 0 ∧ p.q = false then p.t.head? else none
  | [] => none
def NmOk (n : Txt) : Prop := n ≠ [] ∧ paramN n = n.length
def OpOk (n o : Txt) (w : List Pt) : Prop := o ∈ opsL ∧ (o = [37] → hd w ≠ some 37) ∧ (o = [35] → hd w ≠ some 35) ∧ (n = [35] → o = [63] ∨ o = [35] → w ≠ []) ∧ (o = [61] ∨ o = [58, 61] → nameN n ≠ 0)
/-- A part as a parser leaves it; M levels suffice to pass over its text. -/
def VP (O : Nat → List Pt → Prop) (b : Bool) (M : Nat) (p : Pt) : Prop :=
  (p.k = 0 ∧ p.n = [] ∧ p.o = [] ∧ p.w = [] ∧ 1 ≤ M ∧ (p.q = false → p.t ≠ [] ∧ Bare b p.t)) ∨
  (p.k = 1 ∧ p.t = [] ∧ NmOk p.n ∧ 3 ≤ M ∧ (p.w = [] ∧ (p.o = [] ∨ p.o = lenO) ∨ OpOk p.n p.o p.w ∧ O (M - 2) p.w ∧ hasL p.w = false ∧ (p.q = true → qdL [] p.w = p.w))) ∨
  (p.k = 2 ∧ p.n = [] ∧ p.o = [] ∧ p.w = [] ∧ (∀ x, untilD 29 41 (p.t ++ 41 :: x) = some x) ∧ p.t.length + 4 ≤ 2 * M ∧ ¬ (1 < p.t.length ∧ (36 :: 40 :: p.t ++ [41])[2]? = some 40 ∧ (36 :: 40 :: p.t ++ [41])[p.t.length + 1]? = some 41)) ∨
  (p.k = 3 ∧ p.n = [] ∧ p.o = [] ∧ p.w = [] ∧ (∀ x, untilD 29 41 (40 :: p.t ++ 41 :: 41 :: x) = some x) ∧ p.t.length + 6 ≤ 2 * M)
def OkL : Nat → Bool → Nat → List Pt → Prop
  | 0, _, _, _ => False
  | L + 1, b, M, l => Norm l ∧ ∀ p ∈ l, VP (OkL L true) b M p
def body (p : Pt) : Txt := if p.k = 2 then [36, 40] ++ p.t ++ [41] else if p.k = 3 then [36, 40, 40] ++ p.t ++ [41, 41] else if p.k = 1 then (if p.o = lenO then [36, 123, 35] ++ p.n ++ [125] else [36, 123] ++ p.n ++ p.o ++ prL p.w ++ [125]) else []
theorem pr_body (p : Pt) (h : p.k ≠ 0) : p.pr = wrapQ p.q (body p) := by
  cases p with
  | mk k q t n o w =>
    have h : k ≠ 0 := h
    simp only [Pt.pr, if_neg h, body, Pt.k, Pt.q, Pt.t, Pt.n, Pt.o, Pt.w]
    rfl
theorem pr_text (p : Pt) (h : p.k = 0) : p.pr = if p.q = true then single p.t else p.t := by
  cases p with
  | mk k q t n o w =>
    have h : k = 0 := h
    simp only [Pt.pr, if_pos h, Pt.q, Pt.t]
    rfl
theorem head_app {a b : Txt} (h : a ≠ []) : (a ++ b).head? = a.head? := by
  cases a with
  | nil => exact absurd rfl h
  | cons c r => rfl

/-! ### Bytes -/
theorem unit_byte {d : Nat} {c : UInt8} {r : Txt} (h1 : c ≠ 92) (h2 : c ≠ 39) (h3 : c ≠ 34) (h4 : c = 36 → ∀ a y, r = a :: y → a ≠ 40 ∧ a ≠ 123) : unitD (d + 1) (c :: r) = some r := by
  show unitF (untilD d) (c :: r) = some r
  simp only [unitF]
  rw [if_neg h1, if_neg h2, if_neg h3]
  cases r with
  | nil => rfl
  | cons a y =>
    simp only [dollar]
    by_cases h : c = 36
    · have := h4 h a y rfl
      rw [if_neg (fun e => this.1 e.2), if_neg (fun e => this.2 e.2)]
    · rw [if_neg (fun e => h e.1), if_neg (fun e => h e.1)]
def Pl (c : UInt8) : Prop := c ≠ 92 ∧ c ≠ 39 ∧ c ≠ 34 ∧ c ≠ 36 ∧ c ≠ 125
theorem until_step {d : Nat} {c : UInt8} {r t : Txt} (h : c ≠ 125) (hu : unitD d (c :: r) = some t) : untilD d 125 (c :: r) = untilD d 125 t := by
  rw [untilD_cons, if_neg h, if_neg (fun e => absurd e.1 (by decide)), if_neg (fun e => absurd e.1 (by decide)), hu]
  rfl
theorem plain_skip {d : Nat} (hd : 1 ≤ d) : ∀ (y x : Txt), (∀ c ∈ y, Pl c) → untilD d 125 (y ++ x) = untilD d 125 x
  | [], x, _ => rfl
  | c :: y, x, h => by
    obtain ⟨d, rfl⟩ : ∃ k, d = k + 1 := ⟨d - 1, by omega⟩
    have hc := h c (by simp)
    rw [List.cons_append, until_step hc.2.2.2.2 (unit_byte hc.1 hc.2.1 hc.2.2.1 fun e => absurd e hc.2.2.2.1)]
    exact plain_skip hd y x fun c hc => h c (by simp [hc])
theorem nam_pl {c : UInt8} (h : isNam c = true ∨ isSpec c = true) : Pl c := by
  have : ∀ n : Nat, n < 256 → (isNam (UInt8.ofNat n) = true ∨ isSpec (UInt8.ofNat n) = true) → Pl (UInt8.ofNat n) := by
    unfold Pl
    decide +kernel
  have h2 := this c.toNat c.toNat_lt
  rw [UInt8.ofNat_toNat] at h2
  exact h2 h
theorem takeWhile_all {p : UInt8 → Bool} : ∀ {l : Txt}, (l.takeWhile p).length = l.length → ∀ c ∈ l, p c = true
  | [], _, c, h => by cases h
  | a :: l, h, c, hc => by
    by_cases ha : p a = true
    · rw [List.takeWhile_cons, if_pos ha] at h
      rcases List.mem_cons.1 hc with rfl | hc
      · exact ha
      · exact takeWhile_all (by simpa using h) c hc
    · rw [List.takeWhile_cons, if_neg ha] at h
      simp at h
theorem let_nam {c : UInt8} (h : isLet c = true) : isNam c = true := by simp [isNam, h]
theorem dig_spec {c : UInt8} (h : isDig c = true) : isSpec c = true := by simp [isSpec, h]
/-- What a parameter's name may be. -/
theorem name_forms {n : Txt} (h : NmOk n) : (∃ c r, n = c :: r ∧ isLet c = true ∧ ∀ a ∈ r, isNam a = true) ∨ (∃ c r, n = c :: r ∧ isLet c = false ∧ ∀ a ∈ c :: r, isDig a = true) ∨ (∃ c, n = [c] ∧ isLet c = false ∧ isDig c = false ∧ isSpec c = true) := by
  obtain ⟨h1, h2⟩ := h
  obtain ⟨c, r, rfl⟩ := List.exists_cons_of_ne_nil h1
  unfold paramN at h2
  by_cases hn : 0 < nameN (c :: r)
  · rw [if_pos hn] at h2
    simp only [nameN] at h2 hn
    by_cases hl : isLet c = true
    · rw [if_pos hl] at h2
      exact .inl ⟨c, r, rfl, hl, takeWhile_all (by simpa using h2)⟩
    · rw [if_neg hl] at hn
      omega
  · rw [if_neg hn] at h2
    have hl : isLet c = false := by
      simp only [nameN] at hn
      by_cases hl : isLet c = true
      · rw [if_pos hl] at hn; omega
      · simpa using hl
    by_cases hd : 0 < digN (c :: r)
    · rw [if_pos hd] at h2
      exact .inr (.inl ⟨c, r, rfl, hl, takeWhile_all h2⟩)
    · rw [if_neg hd] at h2
      simp only [specN] at h2
      split at h2
      · rename_i hs
        simp only [List.length_cons] at h2
        have : r = [] := List.eq_nil_of_length_eq_zero (by omega)
        subst this
        refine .inr (.inr ⟨c, rfl, hl, ?_, hs⟩)
        by_cases hdc : isDig c = true
        · exfalso
          apply hd
          unfold digN
          rw [List.takeWhile_cons, if_pos hdc]
          simp
        · simpa using hdc
      · simp at h2
theorem name_pl {n : Txt} (h : NmOk n) : ∀ c ∈ n, Pl c := by
  rcases name_forms h with ⟨c, r, rfl, h1, h2⟩ | ⟨c, r, rfl, h1, h2⟩ | ⟨c, rfl, h1, h2, h3⟩
  · intro a ha
    rcases List.mem_cons.1 ha with rfl | ha
    · exact nam_pl (.inl (let_nam h1))
    · exact nam_pl (.inl (h2 a ha))
  · exact fun a ha => nam_pl (.inr (dig_spec (h2 a ha)))
  · intro a ha
    obtain rfl := List.mem_singleton.1 ha
    exact nam_pl (.inr h3)
theorem takeWhile_stop {p : UInt8 → Bool} : ∀ {l : Txt} {r : Txt}, (∀ a ∈ l, p a = true) → (∀ c y, r = c :: y → p c = false) → ((l ++ r).takeWhile p).length = l.length
  | [], r, _, h => by
    cases r with
    | nil => rfl
    | cons c y => simp [h c y rfl]
  | a :: l, r, h, h2 => by
    rw [List.cons_append, List.takeWhile_cons, if_pos (h a (by simp)), List.length_cons, List.length_cons, takeWhile_stop (fun a ha => h a (by simp [ha])) h2]
/-- A name, and behind it what belongs to none. -/
theorem param_app {n r : Txt} (h : NmOk n) (hr : ∀ c y, r = c :: y → isNam c = false) : paramN (n ++ r) = n.length := by
  have hdig : ∀ c y, r = c :: y → isDig c = false := fun c y e => by
    have := hr c y e
    simp only [isNam, Bool.or_eq_false_iff] at this
    exact this.2
  rcases name_forms h with ⟨c, y, rfl, h1, h2⟩ | ⟨c, y, rfl, h1, h2⟩ | ⟨c, rfl, h1, h2, h3⟩
  · have e : nameN (c :: y ++ r) = (c :: y).length := by
      show nameN (c :: (y ++ r)) = _
      simp only [nameN, h1, if_true, List.length_cons]
      rw [takeWhile_stop h2 hr]
    unfold paramN
    rw [e, if_pos (by simp)]
  · have e0 : nameN (c :: y ++ r) = 0 := by
      show nameN (c :: (y ++ r)) = _
      simp only [nameN, h1, Bool.false_eq_true, if_false]
    have e : digN (c :: y ++ r) = (c :: y).length := takeWhile_stop h2 hdig
    unfold paramN
    rw [e0, e, if_neg (by omega), if_pos (by simp)]
  · have e0 : nameN ([c] ++ r) = 0 := by
      show nameN (c :: r) = _
      simp only [nameN, h1, Bool.false_eq_true, if_false]
    have e1 : digN ([c] ++ r) = 0 := by
      show ((c :: r).takeWhile isDig).length = 0
      rw [List.takeWhile_cons, if_neg (by simp [h2])]
      rfl
    have e : specN ([c] ++ r) = 1 := by
      show specN (c :: r) = 1
      simp only [specN, h3, if_true]
    unfold paramN
    rw [e0, e1, e, if_neg (by omega), if_neg (by omega)]
    rfl
theorem ops_head {o : Txt} (h : o ∈ opsL) : ∃ c y, o = c :: y ∧ isNam c = false ∧ ∀ a ∈ o, Pl a := by
  have : ∀ o ∈ opsL, ∃ c y, o = c :: y ∧ isNam c = false ∧ ∀ a ∈ o, Pl a := by
    unfold Pl
    intro o ho
    simp only [opsL, List.mem_cons, List.not_mem_nil, or_false] at ho
    rcases ho with rfl | rfl | rfl | rfl | rfl | rfl | rfl | rfl | rfl | rfl | rfl | rfl <;> exact ⟨_, _, rfl, by decide, by decide⟩
  exact this o h
theorem len_no : lenO ∉ opsL := by decide

/-! ### Texts in quotes -/
theorem quote_ind {C : Txt → Prop} (h1 : ∀ t : Txt, 39 ∉ t → C t) (h2 : ∀ y t : Txt, 39 ∉ y → C t → C (y ++ 39 :: t)) : ∀ (n : Nat) (t : Txt), t.length < n → C t
  | 0, _, h => by omega
  | n + 1, t, h => by
    by_cases hm : (39 : UInt8) ∈ t
    · obtain ⟨y, z, rfl, hy⟩ := List.eq_append_cons_of_mem hm
      exact h2 y z hy (quote_ind h1 h2 n z (by simp only [List.length_append, List.length_cons] at h; omega))
    · exact h1 t hm
theorem flat_plain : ∀ {t : Txt}, (39 : UInt8) ∉ t → (t.flatMap fun b => if b = 39 then [39, 92, 39, 39] else [b]) = t
  | [], _ => rfl
  | c :: t, h => by
    simp only [List.mem_cons, not_or] at h
    rw [List.flatMap_cons, if_neg (fun e => h.1 e.symm), flat_plain h.2]
    rfl
theorem single_plain {t : Txt} (h : (39 : UInt8) ∉ t) : single t = 39 :: t ++ [39] := by
  unfold single
  rw [flat_plain h]
theorem single_cut {y t : Txt} (h : (39 : UInt8) ∉ y) : single (y ++ 39 :: t) = 39 :: y ++ 39 :: 92 :: 39 :: single t := by
  unfold single
  rw [List.flatMap_append, flat_plain h, List.flatMap_cons, if_pos rfl]
  simp
theorem quoteEnd_at : ∀ {y x : Txt}, (39 : UInt8) ∉ y → quoteEnd (y ++ 39 :: x) = some x
  | [], x, _ => by simp [quoteEnd]
  | c :: y, x, h => by
    simp only [List.mem_cons, not_or] at h
    simp only [List.cons_append, quoteEnd]
    rw [if_neg (fun e => h.1 e.symm)]
    exact quoteEnd_at h.2
theorem unit_quote {d : Nat} {y x : Txt} (h : (39 : UInt8) ∉ y) : unitD (d + 1) (39 :: (y ++ 39 :: x)) = some x := by
  show unitF (untilD d) (39 :: (y ++ 39 :: x)) = some x
  simp only [unitF]
  rw [if_neg (by decide), if_pos trivial]
  exact quoteEnd_at h
theorem unit_back {d : Nat} {c : UInt8} {x : Txt} : unitD (d + 1) (92 :: c :: x) = some x := rfl
theorem single_skip {d : Nat} (hd : 1 ≤ d) (x t : Txt) : untilD d 125 (single t ++ x) = untilD d 125 x := by
  obtain ⟨d, rfl⟩ : ∃ k, d = k + 1 := ⟨d - 1, by omega⟩
  refine quote_ind (C := fun t => untilD (d + 1) 125 (single t ++ x) = untilD (d + 1) 125 x) (fun t ht => ?_) (fun y t hy ih => ?_) _ t (Nat.lt_succ_self _)
  · rw [single_plain ht]
    simp only [List.cons_append, List.append_assoc, List.nil_append]
    exact until_step (by decide) (unit_quote ht)
  · rw [single_cut hy]
    simp only [List.cons_append, List.append_assoc]
    rw [until_step (by decide) (unit_quote hy), until_step (by decide) unit_back]
    exact ih

/-! ### Passing over the text of parts -/
theorem bare_skip {d : Nat} (hd : 1 ≤ d) : ∀ (t x : Txt), Bare true t → NoD x → untilD d 125 (t ++ x) = untilD d 125 x
  | [], x, _, _ => rfl
  | c :: t, x, h, hx => by
    obtain ⟨d, rfl⟩ : ∃ k, d = k + 1 := ⟨d - 1, by omega⟩
    obtain ⟨⟨h1, h2, h3, h4⟩, h5, h6⟩ := h
    rw [List.cons_append, until_step (h4 rfl) (unit_byte h1 h2 h3 fun e a y hay => ?_)]
    · exact bare_skip hd t x h6 hx
    · cases t with
      | nil => exact (hx a y hay).2.2
      | cons b t =>
        injection hay with e1 _
        rw [← e1]
        exact (h5 e b t rfl).2.2
theorem noD_of {c : UInt8} {r : Txt} (h : c = 39 ∨ c = 34 ∨ c = 36 ∨ c = 125) : NoD (c :: r) := by
  intro a y e
  injection e with e1 _
  rw [← e1]
  rcases h with rfl | rfl | rfl | rfl <;> decide
theorem noD_nil : NoD [] := fun c y e => by cases e
theorem body_head {O : Nat → List Pt → Prop} {b : Bool} {M : Nat} {p : Pt} (h : VP O b M p) (hk : p.k ≠ 0) : ∃ r, body p = 36 :: r := by
  rcases h with h | h | h | h
  · exact absurd h.1 hk
  · unfold body
    rw [if_neg (by rw [h.1]; decide), if_neg (by rw [h.1]; decide), if_pos h.1]
    split <;> exact ⟨_, rfl⟩
  · unfold body
    rw [if_pos h.1]
    exact ⟨_, rfl⟩
  · unfold body
    rw [if_neg (by rw [h.1]; decide), if_pos h.1]
    exact ⟨_, rfl⟩
theorem pr_head {O : Nat → List Pt → Prop} {b : Bool} {M : Nat} {p : Pt} (h : VP O b M p) (hk : p.k ≠ 0 ∨ p.q = true) : ∃ c r, p.pr = c :: r ∧ (c = 39 ∨ c = 34 ∨ c = 36 ∨ c = 125) := by
  by_cases h0 : p.k = 0
  · have hq := hk.resolve_left (fun e => e h0)
    rw [pr_text p h0, if_pos hq]
    exact ⟨39, _, rfl, .inl rfl⟩
  · obtain ⟨r, hr⟩ := body_head h h0
    rw [pr_body p h0, wrapQ, hr]
    split
    · exact ⟨34, _, rfl, .inr (.inl rfl)⟩
    · exact ⟨36, _, rfl, .inr (.inr (.inl rfl))⟩
theorem pr_ne {O : Nat → List Pt → Prop} {b : Bool} {M : Nat} {p : Pt} (h : VP O b M p) : p.pr ≠ [] := by
  by_cases hk : p.k ≠ 0 ∨ p.q = true
  · obtain ⟨c, r, e, _⟩ := pr_head h hk
    rw [e]
    simp
  · simp only [not_or, Decidable.not_not, Bool.not_eq_true] at hk
    rw [pr_text p hk.1, hk.2, if_neg (by decide)]
    rcases h with h | h | h | h
    · exact (h.2.2.2.2.2 hk.2).1
    · rw [hk.1] at h; exact absurd h.1 (by decide)
    · rw [hk.1] at h; exact absurd h.1 (by decide)
    · rw [hk.1] at h; exact absurd h.1 (by decide)
theorem after {O : Nat → List Pt → Prop} {b : Bool} {M : Nat} {p : Pt} {r : List Pt} {z : Txt} (hn : Norm (p :: r)) (hr : ∀ x ∈ r, VP O b M x) (h0 : p.k = 0) (hq : p.q = false) (hz : NoD z) : NoD (prL r ++ z) := by
  cases r with
  | nil => exact hz
  | cons a r =>
    have h1 : ¬ Mg p a := hn.1
    have h2 : a.k ≠ 0 ∨ a.q = true := by
      by_cases ha : a.k = 0
      · right
        by_cases haq : a.q = true
        · exact haq
        · exact absurd ⟨ha, h0, by rw [hq]; simpa using haq⟩ h1
      · exact .inl ha
    obtain ⟨c, y, e, hc⟩ := pr_head (hr a (by simp)) h2
    simp only [prL, e, List.cons_append]
    exact noD_of hc
def LS (L : Nat) : Prop := ∀ (M : Nat) (l : List Pt) (z : Txt), OkL L true M l → ∀ d, M ≤ d → untilD d 125 (prL l ++ 125 :: z) = some z
theorem body_unit {L : Nat} (hL : LS L) {b : Bool} {M : Nat} {p : Pt} (h : VP (OkL L true) b M p) (hk : p.k ≠ 0) {d : Nat} (hd : M ≤ d + 1) (x : Txt) : unitD d (body p ++ x) = some x := by
  have two : ∀ {e : Nat} {r : Txt}, unitD (e + 1) (36 :: 123 :: r) = untilD e 125 r := fun {e r} => rfl
  have par : ∀ {e : Nat} {r : Txt}, unitD (e + 1) (36 :: 40 :: r) = untilD e 41 r := fun {e r} => rfl
  rcases h with h | h | h | h
  · exact absurd h.1 hk
  · obtain ⟨h1, h2, h3, h4, h5⟩ := h
    obtain ⟨d, rfl⟩ : ∃ k, d = k + 1 := ⟨d - 1, by omega⟩
    have hpl := name_pl h3
    unfold body
    rw [if_neg (by rw [h1]; decide), if_neg (by rw [h1]; decide), if_pos h1]
    have e125 : ∀ z : Txt, untilD d 125 (125 :: z) = some z := fun z => by rw [untilD_cons, if_pos rfl]
    have no : ∀ {o : Txt}, o ∈ opsL → o ≠ lenO := fun ho e => len_no (e ▸ ho)
    rcases h5 with ⟨hw, ho⟩ | ⟨ho, hw, _, _⟩
    · rcases ho with ho | ho
      · rw [ho, if_neg (by decide), hw]
        simp only [prL, List.append_nil, List.cons_append, List.nil_append, List.append_assoc]
        rw [two, plain_skip (by omega) _ _ hpl, e125]
      · rw [ho, if_pos rfl]
        simp only [List.cons_append, List.nil_append, List.append_assoc]
        rw [two]
        have := plain_skip (d := d) (by omega) (35 :: p.n) (125 :: x) (fun c hc => by
          rcases List.mem_cons.1 hc with rfl | hc
          · unfold Pl; decide
          · exact hpl c hc)
        rw [List.cons_append] at this
        rw [this, e125]
    · obtain ⟨c, y, e, _, hop⟩ := ops_head ho.1
      rw [if_neg (no ho.1)]
      simp only [List.cons_append, List.nil_append, List.append_assoc]
      rw [two, plain_skip (by omega) _ _ hpl, plain_skip (by omega) _ _ hop]
      exact hL (M - 2) p.w x hw d (by omega)
  · obtain ⟨h1, h2, h3, h4, h5, h6, h7⟩ := h
    obtain ⟨d, rfl⟩ : ∃ k, d = k + 1 := ⟨d - 1, by omega⟩
    unfold body
    rw [if_pos h1]
    simp only [List.cons_append, List.nil_append, List.append_assoc]
    rw [par]
    refine untilD_few (h5 x) ?_
    simp only [List.length_append, List.length_cons]
    omega
  · obtain ⟨h1, h2, h3, h4, h5, h6⟩ := h
    obtain ⟨d, rfl⟩ : ∃ k, d = k + 1 := ⟨d - 1, by omega⟩
    unfold body
    rw [if_neg (by rw [h1]; decide), if_pos h1]
    simp only [List.cons_append, List.nil_append, List.append_assoc]
    rw [par]
    refine untilD_few (h5 x) ?_
    simp only [List.length_append, List.length_cons]
    omega
theorem quoted_unit {L : Nat} (hL : LS L) {b : Bool} {M : Nat} {p : Pt} (h : VP (OkL L true) b M p) (hk : p.k ≠ 0) {d : Nat} (hd : M ≤ d) (x : Txt) : unitD d (34 :: (body p ++ 34 :: x)) = some x := by
  obtain ⟨r, hr⟩ := body_head h hk
  have hd1 : 1 ≤ d := by
    rcases h with h | h | h | h
    · exact absurd h.1 hk
    · have := h.2.2.2.1; omega
    · have := h.2.2.2.2.2.1; omega
    · have := h.2.2.2.2.2; omega
  obtain ⟨d, rfl⟩ : ∃ k, d = k + 1 := ⟨d - 1, by omega⟩
  show untilD d 34 (body p ++ 34 :: x) = some x
  have hu := body_unit hL h hk (d := d) (by omega) (34 :: x)
  rw [hr, List.cons_append] at hu ⊢
  rw [untilD_cons, if_neg (by decide), if_neg (fun e => absurd e.2 (by decide)), if_neg (fun e => absurd e.1 (by decide)), hu]
  show untilD d 34 (34 :: x) = some x
  rw [untilD_cons, if_pos rfl]
theorem part_skip {L : Nat} (hL : LS L) {M : Nat} {p : Pt} (h : VP (OkL L true) true M p) {d : Nat} (hd : M ≤ d) {x : Txt} (hx : p.k = 0 → p.q = false → NoD x) : untilD d 125 (p.pr ++ x) = untilD d 125 x := by
  by_cases h0 : p.k = 0
  · have hv : 1 ≤ M ∧ (p.q = false → p.t ≠ [] ∧ Bare true p.t) := by
      rcases h with h | h | h | h
      · exact h.2.2.2.2
      · rw [h0] at h; exact absurd h.1 (by decide)
      · rw [h0] at h; exact absurd h.1 (by decide)
      · rw [h0] at h; exact absurd h.1 (by decide)
    rw [pr_text p h0]
    by_cases hq : p.q = true
    · rw [if_pos hq]
      exact single_skip (by omega) _ _
    · have hq : p.q = false := by simpa using hq
      rw [hq, if_neg (by decide)]
      exact bare_skip (by omega) _ _ (hv.2 hq).2 (hx h0 hq)
  · rw [pr_body p h0, wrapQ]
    by_cases hq : p.q = true
    · rw [if_pos hq]
      simp only [List.cons_append, List.append_assoc, List.nil_append]
      exact until_step (by decide) (quoted_unit hL h h0 hd x)
    · rw [if_neg hq]
      have hu := body_unit hL h h0 (d := d) (by omega) x
      obtain ⟨r, hr⟩ := body_head h h0
      rw [hr, List.cons_append] at hu ⊢
      exact until_step (by decide) hu
theorem parts_skip {L : Nat} (hL : LS L) {M d : Nat} (hd : M ≤ d) {z : Txt} : ∀ {l : List Pt}, Norm l → (∀ p ∈ l, VP (OkL L true) true M p) → untilD d 125 (prL l ++ 125 :: z) = some z
  | [], _, _ => by
    show untilD d 125 (125 :: z) = some z
    rw [untilD_cons, if_pos rfl]
  | p :: l, hn, h => by
    have hl : ∀ x ∈ l, VP (OkL L true) true M x := fun x hx => h x (by simp [hx])
    simp only [prL, List.append_assoc]
    rw [part_skip hL (h p (by simp)) hd (fun h0 hq => after hn hl h0 hq (noD_of (.inr (.inr (.inr rfl)))))]
    exact parts_skip hL hd hn.tail hl
theorem skips : ∀ L, LS L
  | 0 => fun M l z h => by cases h
  | L + 1 => fun M l z h d hd => parts_skip (skips L) hd h.1 h.2

/-! ### The text of parts, parsed -/
def run (P : Txt → Rs (List Pt)) (acc : List Pt) (s : Txt) : Rs (List Pt) := loopF (outOne P) (s.length + 1) acc s
theorem run_nil (P : Txt → Rs (List Pt)) (acc : List Pt) : run P acc [] = .ok acc := rfl
theorem run_cons {P : Txt → Rs (List Pt)} {acc : List Pt} {c : UInt8} {r : Txt} {ps : List Pt} {n : Nat} (h : outOne P (c :: r) = .ok (ps, n)) : run P acc (c :: r) = run P (ps.foldl addP acc) ((c :: r).drop n) := by
  have h2 := outOne_takes P _ _ h
  show (outOne P (c :: r)).and (fun x => loopF (outOne P) (c :: r).length (x.1.foldl addP acc) ((c :: r).drop x.2)) = _
  rw [h]
  simp only [Rs.and]
  refine loopF_more (outOne_takes P) _ _ _ _ ?_ (Nat.lt_succ_self _)
  rw [List.length_drop]
  dsimp only at h2
  omega
theorem out_dollar (P : Txt → Rs (List Pt)) {r : Txt} (h : NoD r) : outOne P (36 :: r) = .ok ([tx false [36]], 1) := by
  have h1 : ¬ (r.head? = some 40 ∨ r.head? = some 123) := by
    cases r with
    | nil => simp
    | cons c y =>
      have := h c y rfl
      simp only [List.head?_cons, Option.some.injEq, not_or]
      exact this.2.2
  have h2 : nameN r = 0 ∧ specN r = 0 := by
    cases r with
    | nil => exact ⟨rfl, rfl⟩
    | cons c y =>
      have := h c y rfl
      simp [nameN, specN, this.1, this.2.1]
  simp only [outOne, if_true, dollarF, List.drop_succ_cons, List.drop_zero]
  rw [if_neg h1, h2.1, h2.2]
  rfl
theorem bare_run {P : Txt → Rs (List Pt)} {b : Bool} {x : Txt} (hx : NoD x) : ∀ (t a : Txt) (acc : List Pt), Bare b t → run P (addP acc (tx false a)) (t ++ x) = run P (addP acc (tx false (a ++ t))) x
  | [], a, acc, _ => by rw [List.append_nil, List.nil_append]
  | c :: t, a, acc, h => by
    obtain ⟨⟨h1, h2, h3, _⟩, h5, h6⟩ := h
    have one : outOne P (c :: (t ++ x)) = .ok ([tx false [c]], 1) := by
      by_cases hc : c = 36
      · subst hc
        refine out_dollar P ?_
        cases t with
        | nil => exact hx
        | cons b t =>
          intro d y e
          injection e with e1 _
          rw [← e1]
          exact h5 rfl b t rfl
      · simp only [outOne]
        rw [if_neg hc, if_neg (by simp [h1, h2, h3])]
    rw [List.cons_append, run_cons one]
    simp only [List.foldl_cons, List.foldl_nil, List.drop_succ_cons, List.drop_zero, addP_tx]
    rw [bare_run hx t (a ++ [c]) acc h6]
    simp
theorem bare_run0 {P : Txt → Rs (List Pt)} {b : Bool} {x : Txt} (hx : NoD x) {t : Txt} (acc : List Pt) (ht : t ≠ []) (h : Bare b t) : run P acc (t ++ x) = run P (addP acc (tx false t)) x := by
  obtain ⟨c, y, rfl⟩ := List.exists_cons_of_ne_nil ht
  obtain ⟨⟨h1, h2, h3, _⟩, h5, h6⟩ := h
  have one : outOne P (c :: (y ++ x)) = .ok ([tx false [c]], 1) := by
    by_cases hc : c = 36
    · subst hc
      refine out_dollar P ?_
      cases y with
      | nil => exact hx
      | cons b y =>
        intro d z e
        injection e with e1 _
        rw [← e1]
        exact h5 rfl b y rfl
    · simp only [outOne]
      rw [if_neg hc, if_neg (by simp [h1, h2, h3])]
  rw [List.cons_append, run_cons one]
  simp only [List.foldl_cons, List.foldl_nil, List.drop_succ_cons, List.drop_zero]
  rw [bare_run hx y [c] acc h6]
  rfl
theorem out_single {P : Txt → Rs (List Pt)} {y x : Txt} (h : (39 : UInt8) ∉ y) : outOne P (39 :: (y ++ 39 :: x)) = .ok ([tx true y], y.length + 2) := by
  simp only [outOne]
  rw [if_neg (by decide), if_pos (by decide), unit_quote h]
  simp only [List.length_append, List.length_cons]
  rw [if_neg (by decide), if_neg (by decide), show y.length + (x.length + 1) - x.length - 1 = y.length by omega, List.take_left, show y.length + (x.length + 1) + 1 - x.length = y.length + 2 by omega]
theorem drop_app (y : Txt) (n : Nat) (x : Txt) (h : n = y.length) : (y ++ x).drop n = x := by rw [h, List.drop_left]
theorem single_run {P : Txt → Rs (List Pt)} {x : Txt} (t : Txt) : ∀ acc : List Pt, run P acc (single t ++ x) = run P (addP acc (tx true t)) x := by
  refine quote_ind (C := fun t => ∀ acc : List Pt, run P acc (single t ++ x) = run P (addP acc (tx true t)) x) (fun t ht acc => ?_) (fun y t hy ih acc => ?_) _ t (Nat.lt_succ_self _)
  · rw [single_plain ht]
    simp only [List.cons_append, List.append_assoc, List.nil_append]
    rw [run_cons (out_single ht)]
    have e : (39 :: (t ++ 39 :: x)).drop (t.length + 2) = x := by
      simp
    rw [e]
    rfl
  · rw [single_cut hy]
    simp only [List.cons_append, List.append_assoc]
    rw [run_cons (out_single hy)]
    have e : (39 :: (y ++ 39 :: 92 :: 39 :: (single t ++ x))).drop (y.length + 2) = 92 :: 39 :: (single t ++ x) := by
      simp
    rw [e]
    have h2 : outOne P (92 :: 39 :: (single t ++ x)) = .ok ([tx true [39]], 2) := by
      simp only [outOne]
      rw [if_neg (by decide), if_pos (by decide), show unitD 30 (92 :: 39 :: (single t ++ x)) = some (single t ++ x) from unit_back]
      rfl
    rw [run_cons h2]
    simp only [List.foldl_cons, List.foldl_nil, List.drop_succ_cons, List.drop_zero, addP_tx]
    rw [ih, addP_tx]
    simp
theorem op_back {n o y : Txt} {w : List Pt} (h : OpOk n o w) (hy : y.head? = some 37 → hd w = some 37) (hy2 : y.head? = some 35 → hd w = some 35) : opOf (o ++ y) = o := by
  obtain ⟨h1, h2, h3, _, _⟩ := h
  simp only [opsL, List.mem_cons, List.not_mem_nil, or_false] at h1
  have pfc : ∀ (a : UInt8) (r : Txt), pf [a] (a :: r) = true := fun a r => by simp [pf]
  have pfo : ∀ (a c : UInt8) (r : Txt), a ≠ c → pf [a] (c :: r) = false := fun a c r h => by simp [pf, Ne.symm h]
  have pff : ∀ (a b c : UInt8) (r : Txt), a ≠ c → pf [a, b] (c :: r) = false := fun a b c r h => by
    simp only [pf, decide_eq_false_iff_not]
    rintro ⟨_, e⟩
    simp only [List.length_cons, List.take_succ_cons] at e
    injection e with e _
    exact h e.symm
  have pft : ∀ (a b : UInt8) (r : Txt), pf [a, b] (a :: b :: r) = true := fun a b r => by simp [pf]
  have pfn : ∀ (a b : UInt8) (r : Txt), r.head? ≠ some b → pf [a, b] (a :: r) = false := fun a b r h => by
    cases r with
    | nil => simp [pf]
    | cons c r =>
      simp only [pf, decide_eq_false_iff_not]
      rintro ⟨_, e⟩
      simp only [List.length_cons, List.length_nil, List.take_succ_cons, List.take_zero] at e
      injection e with _ e
      injection e with e _
      exact h (by rw [e]; rfl)
  have pfs : ∀ (a b c : UInt8) (r : Txt), b ≠ c → pf [a, b] (a :: c :: r) = false := fun a b c r h => pfn a b (c :: r) (by simp [Ne.symm h])
  unfold opOf
  rcases h1 with rfl | rfl | rfl | rfl | rfl | rfl | rfl | rfl | rfl | rfl | rfl | rfl
  · simp [opsL, pft]
  · simp [opsL, List.find?_cons, pft, pfs]
  · simp [opsL, List.find?_cons, pft, pfs]
  · simp [opsL, List.find?_cons, pft, pfs]
  · simp [opsL, List.find?_cons, pft, pff]
  · simp [opsL, List.find?_cons, pft, pff]
  · simp [opsL, List.find?_cons, pfc, pff, pfo]
  · simp [opsL, List.find?_cons, pfc, pff, pfo]
  · simp [opsL, List.find?_cons, pfc, pff, pfo]
  · simp [opsL, List.find?_cons, pfc, pff, pfo]
  · have := pfn 37 37 y (fun e => h2 rfl (hy e))
    simp [opsL, List.find?_cons, pfc, pff, pfo, this]
  · have := pfn 35 35 y (fun e => h3 rfl (hy2 e))
    simp [opsL, List.find?_cons, pfc, pff, pfo, this]
theorem prL_head {O : Nat → List Pt → Prop} {b : Bool} {M : Nat} {w : List Pt} (h : ∀ p ∈ w, VP O b M p) {c : UInt8} (hc : c = 37 ∨ c = 35) (hh : (prL w).head? = some c) : hd w = some c := by
  cases w with
  | nil => cases hh
  | cons p r =>
    by_cases hk : p.k ≠ 0 ∨ p.q = true
    · obtain ⟨a, y, e, ha⟩ := pr_head (h p (by simp)) hk
      simp only [prL, e, List.cons_append, List.head?_cons, Option.some.injEq] at hh
      subst hh
      rcases hc with rfl | rfl <;> (exfalso; revert ha; decide)
    · have hne := pr_ne (h p (by simp))
      simp only [not_or, Decidable.not_not, Bool.not_eq_true] at hk
      rw [pr_text p hk.1, hk.2, if_neg (by decide)] at hne
      simp only [prL, pr_text p hk.1, hk.2, Bool.false_eq_true, if_false, head_app hne] at hh
      simp only [hd, hk, and_self, if_true]
      exact hh
/-- What stands between the braces. -/
def inn (p : Pt) : Txt := if p.o = lenO then 35 :: p.n else p.n ++ (p.o ++ prL p.w)
theorem body1 {p : Pt} (h : p.k = 1) : body p = 36 :: 123 :: (inn p ++ [125]) := by
  unfold body inn
  rw [if_neg (by rw [h]; decide), if_neg (by rw [h]; decide), if_pos h]
  split <;> simp
theorem param_one {c : UInt8} {r : Txt} (h1 : isLet c = false) (h2 : isDig c = false) : paramN (c :: r) = if isSpec c = true then 1 else 0 := by
  have e0 : nameN (c :: r) = 0 := by simp only [nameN, h1, Bool.false_eq_true, if_false]
  have e1 : digN (c :: r) = 0 := by
    show ((c :: r).takeWhile isDig).length = 0
    rw [List.takeWhile_cons, if_neg (by simp [h2])]
    rfl
  unfold paramN
  rw [e0, e1, if_neg (by omega), if_neg (by omega)]
  rfl
theorem name_hash {n : Txt} (h : NmOk n) (hh : n.head? = some 35) : n = [35] := by
  rcases name_forms h with ⟨c, r, rfl, h1, h2⟩ | ⟨c, r, rfl, h1, h2⟩ | ⟨c, rfl, h1, h2, h3⟩
  · obtain rfl : c = 35 := by simpa using hh
    exact absurd h1 (by decide)
  · obtain rfl : c = 35 := by simpa using hh
    exact absurd (h2 35 (by simp)) (by decide)
  · obtain rfl : c = 35 := by simpa using hh
    rfl
theorem braces_back {L : Nat} {P : Txt → Rs (List Pt)} (hP : ∀ m w, OkL L true m w → m ≤ 30 → P (prL w) = .ok w) {b : Bool} {M : Nat} {p : Pt} (h : VP (OkL L true) b M p) (hk : p.k = 1) (hM : M ≤ 32) : bracesF P p.q (inn p) = .ok p := by
  rcases h with h | h | h | h
  · rw [h.1] at hk; exact absurd hk (by decide)
  rotate_left
  · rw [h.1] at hk; exact absurd hk (by decide)
  · rw [h.1] at hk; exact absurd hk (by decide)
  obtain ⟨h1, h2, h3, h4, h5⟩ := h
  have hne := h3.1
  have hlen : 0 < p.n.length := List.length_pos_iff.2 hne
  have hp : p = .mk 1 p.q [] p.n p.o p.w := by
    rw [← h1, ← h2]
    exact (Pt.eta p).symm
  have no1 : ¬ (1 < p.n.length ∧ p.n.head? = some 35 ∧ paramN (p.n.drop 1) = p.n.length - 1) := by
    rintro ⟨e1, e2, _⟩
    rw [name_hash h3 e2] at e1
    exact absurd e1 (by decide)
  rcases h5 with ⟨hw, ho | ho⟩ | ⟨ho, hw, hh, hqd⟩
  · have hi : inn p = p.n := by
      unfold inn
      rw [ho, if_neg (by decide), hw]
      simp [prL]
    rw [hi]
    unfold bracesF
    rw [if_neg no1, h3.2, if_neg (by omega), List.drop_length, if_pos rfl, List.take_length]
    rw [hw, ho] at hp
    exact congrArg Rs.ok hp.symm
  · have hi : inn p = 35 :: p.n := by
      unfold inn
      rw [ho, if_pos rfl]
    rw [hi]
    unfold bracesF
    rw [if_pos ⟨by simp only [List.length_cons]; omega, rfl, by rw [List.drop_succ_cons, List.drop_zero, h3.2, List.length_cons]; omega⟩, List.drop_succ_cons, List.drop_zero]
    rw [hw, ho] at hp
    exact congrArg Rs.ok hp.symm
  · obtain ⟨L, rfl⟩ : ∃ k, L = k + 1 := by
      cases L with
      | zero => cases hw
      | succ k => exact ⟨k, rfl⟩
    obtain ⟨c, y, eo, hc, _⟩ := ops_head ho.1
    have hi : inn p = p.n ++ (p.o ++ prL p.w) := by
      unfold inn
      rw [if_neg (show ¬ p.o = lenO from fun e => len_no (e ▸ ho.1))]
    have hpar : paramN (p.n ++ (p.o ++ prL p.w)) = p.n.length := param_app h3 fun a z e => by
      rw [eo] at e
      injection e with e _
      rw [← e]
      exact hc
    have hop : opOf (p.o ++ prL p.w) = p.o := op_back ho (fun e => prL_head hw.2 (.inl rfl) e) (fun e => prL_head hw.2 (.inr rfl) e)
    have no2 : ¬ (1 < (p.n ++ (p.o ++ prL p.w)).length ∧ (p.n ++ (p.o ++ prL p.w)).head? = some 35 ∧ paramN ((p.n ++ (p.o ++ prL p.w)).drop 1) = (p.n ++ (p.o ++ prL p.w)).length - 1) := by
      rintro ⟨_, e2, e3⟩
      rw [head_app hne] at e2
      have en := name_hash h3 e2
      rw [en] at e3
      simp only [List.cons_append, List.nil_append, List.drop_succ_cons, List.drop_zero, List.length_cons, Nat.add_sub_cancel] at e3
      have hin := ho.1
      have h4' := ho.2.2.2.1 en
      simp only [opsL, List.mem_cons, List.not_mem_nil, or_false] at hin
      have wne : (o : Txt) → p.o = o → o = [63] ∨ o = [35] → (p.o ++ prL p.w).length = 1 → False := by
        intro o e1 e2 e4
        have hw0 := h4' (e1 ▸ e2)
        obtain ⟨a, r, er⟩ := List.exists_cons_of_ne_nil hw0
        have := pr_ne (hw.2 a (by rw [er]; simp))
        have hl : 0 < a.pr.length := List.length_pos_iff.2 this
        rw [er] at e4
        have ol : p.o.length = 1 := by rw [e1]; rcases e2 with rfl | rfl <;> rfl
        simp only [prL, List.length_append] at e4
        omega
      rcases hin with e | e | e | e | e | e | e | e | e | e | e | e
      all_goals (rw [e] at e3; rw [List.cons_append, param_one (by decide) (by decide)] at e3)
      all_goals first
        | (rw [if_neg (by decide)] at e3; simp at e3)
        | (rw [if_pos (by decide)] at e3; simp only [List.cons_append, List.nil_append, List.length_cons] at e3; omega)
        | exact wne _ e (by decide) (by rw [e]; rw [if_pos (by decide)] at e3; exact e3.symm)
    have ne1 : ¬ (p.o ++ prL p.w) = [] := by rw [eo]; simp
    have ne2 : ¬ (p.o = [] ∨ ((p.o = [61] ∨ p.o = [58, 61]) ∧ nameN p.n = 0)) := by
      rintro (e | ⟨e, e2⟩)
      · rw [eo] at e; cases e
      · exact ho.2.2.2.2 e e2
    rw [hi]
    unfold bracesF
    rw [if_neg no2, hpar, if_neg (by omega), List.drop_left, if_neg ne1, List.take_left, hop, if_neg ne2, List.drop_left, hP _ _ hw (by omega)]
    simp only [Rs.and]
    rw [if_neg (by rw [hh]; decide)]
    have e : (if p.q = true then qdL [] p.w else p.w) = p.w := by
      split
      · rename_i hq
        exact hqd hq
      · rfl
    rw [e]
    exact congrArg Rs.ok hp.symm
theorem dollar_back {L : Nat} {P : Txt → Rs (List Pt)} (hP : ∀ m w, OkL L true m w → m ≤ 30 → P (prL w) = .ok w) {b : Bool} {M : Nat} {p : Pt} (h : VP (OkL L true) b M p) (hk : p.k ≠ 0) (hM : M ≤ 30) (x : Txt) : dollarF P p.q (body p ++ x) = .ok (p, (body p).length) := by
  have hu := body_unit (skips L) h hk (d := 30) (by omega) x
  have h' := h
  rcases h with h | h | h | h
  · exact absurd h.1 hk
  · rw [body1 h.1] at hu ⊢
    simp only [List.cons_append, List.append_assoc, List.nil_append] at hu ⊢
    unfold dollarF
    simp only [List.drop_succ_cons, List.drop_zero, List.head?_cons]
    rw [if_pos (.inr trivial), hu]
    simp only [if_true, List.length_cons, List.length_append, List.length_nil]
    rw [show (inn p).length + (x.length + 1) + 1 + 1 - x.length - 3 = (inn p).length by omega, List.take_left, braces_back hP h' h.1 (by omega)]
    simp only [Rs.and]
    rw [show (inn p).length + (x.length + 1) + 1 + 1 - x.length = (inn p).length + (0 + 1) + 1 + 1 by omega]
  · obtain ⟨h1, h2, h3, h4, h5, h6, h7⟩ := h
    have eb : body p = 36 :: 40 :: (p.t ++ [41]) := by
      unfold body
      rw [if_pos h1]
      simp
    have hp : p = .mk 2 p.q p.t [] [] [] := by
      conv => lhs; rw [← Pt.eta p, h1, h2, h3, h4]
    rw [eb] at hu ⊢
    simp only [List.cons_append, List.append_assoc, List.nil_append] at hu ⊢
    unfold dollarF
    simp only [List.drop_succ_cons, List.drop_zero, List.head?_cons]
    rw [if_pos (.inl trivial), hu]
    simp only [List.length_cons, List.length_append, List.length_nil]
    rw [if_neg (by decide), show p.t.length + (x.length + 1) + 1 + 1 - x.length = p.t.length + 3 by omega, if_neg ?_]
    · rw [show p.t.length + 3 - 3 = p.t.length by omega, List.take_left]
      rw [show p.t.length + 3 = p.t.length + (0 + 1) + 1 + 1 by omega]
      conv => rhs; rw [hp]
      rfl
    · rintro ⟨e1, e2, e3⟩
      refine h7 ⟨by omega, ?_, ?_⟩
      · have : (36 :: 40 :: p.t ++ [41])[2]? = (36 :: 40 :: (p.t ++ 41 :: x))[2]? := by
          show (36 :: 40 :: p.t ++ [41])[2]? = (36 :: 40 :: p.t ++ ([41] ++ x))[2]?
          rw [← List.append_assoc, List.getElem?_append_left (l₂ := x)]
          simp only [List.length_append, List.length_cons, List.length_nil]
          omega
        rw [this]
        exact e2
      · have : (36 :: 40 :: p.t ++ [41])[p.t.length + 1]? = (36 :: 40 :: (p.t ++ 41 :: x))[p.t.length + 1]? := by
          show (36 :: 40 :: p.t ++ [41])[p.t.length + 1]? = (36 :: 40 :: p.t ++ ([41] ++ x))[p.t.length + 1]?
          rw [← List.append_assoc, List.getElem?_append_left (l₂ := x)]
          simp only [List.length_append, List.length_cons, List.length_nil]
          omega
        rw [this]
        exact e3
  · obtain ⟨h1, h2, h3, h4, h5, h6⟩ := h
    have eb : body p = 36 :: 40 :: 40 :: (p.t ++ [41, 41]) := by
      unfold body
      rw [if_neg (by rw [h1]; decide), if_pos h1]
      simp
    have hp : p = .mk 3 p.q p.t [] [] [] := by
      conv => lhs; rw [← Pt.eta p, h1, h2, h3, h4]
    rw [eb] at hu ⊢
    simp only [List.cons_append, List.append_assoc, List.nil_append] at hu ⊢
    unfold dollarF
    simp only [List.drop_succ_cons, List.drop_zero, List.head?_cons]
    rw [if_pos (.inl trivial), hu]
    simp only [List.length_cons, List.length_append, List.length_nil]
    rw [if_neg (by decide), show p.t.length + (x.length + 1 + 1) + 1 + 1 + 1 - x.length = p.t.length + 5 by omega, if_pos ?_]
    · rw [show p.t.length + 5 - 5 = p.t.length by omega, List.take_left]
      rw [show p.t.length + 5 = p.t.length + (0 + 1 + 1) + 1 + 1 + 1 by omega]
      conv => rhs; rw [hp]
      rfl
    · refine ⟨by omega, rfl, ?_⟩
      rw [show p.t.length + 5 - 2 = (36 :: 40 :: 40 :: p.t).length by simp only [List.length_cons]; omega]
      show (36 :: 40 :: 40 :: p.t ++ 41 :: 41 :: x)[_]? = _
      rw [List.getElem?_append_right (Nat.le_refl _), Nat.sub_self]
      rfl
theorem dbl_back {L : Nat} {P : Txt → Rs (List Pt)} (hP : ∀ m w, OkL L true m w → m ≤ 30 → P (prL w) = .ok w) {b : Bool} {M : Nat} {p : Pt} (h : VP (OkL L true) b M p) (hk : p.k ≠ 0) (hq : p.q = true) (hM : M ≤ 30) : dblF P (body p) = .ok [p] := by
  have hd := dollar_back hP h hk hM []
  rw [List.append_nil, hq] at hd
  obtain ⟨r, hr⟩ := body_head h hk
  rw [hr] at hd ⊢
  unfold dblF
  rw [if_neg (by simp)]
  show (dblOne P (36 :: r)).and (fun x => loopF (dblOne P) (36 :: r).length (x.1.foldl addP []) ((36 :: r).drop x.2)) = _
  simp only [dblOne, if_true, hd, Rs.and, List.foldl_cons, List.foldl_nil]
  rw [List.drop_length]
  rfl
theorem part_run {L : Nat} {P : Txt → Rs (List Pt)} (hP : ∀ m w, OkL L true m w → m ≤ 30 → P (prL w) = .ok w) {b : Bool} {M : Nat} {p : Pt} (h : VP (OkL L true) b M p) (hM : M ≤ 30) (acc : List Pt) {x : Txt} (hx : p.k = 0 → p.q = false → NoD x) : run P acc (p.pr ++ x) = run P (addP acc p) x := by
  by_cases h0 : p.k = 0
  · have hv : p.n = [] ∧ p.o = [] ∧ p.w = [] ∧ 1 ≤ M ∧ (p.q = false → p.t ≠ [] ∧ Bare b p.t) := by
      rcases h with h | h | h | h
      · exact h.2
      · rw [h0] at h; exact absurd h.1 (by decide)
      · rw [h0] at h; exact absurd h.1 (by decide)
      · rw [h0] at h; exact absurd h.1 (by decide)
    have hp : p = tx p.q p.t := by
      unfold tx
      conv => lhs; rw [← Pt.eta p, h0, hv.1, hv.2.1, hv.2.2.1]
    rw [pr_text p h0]
    by_cases hq : p.q = true
    · rw [if_pos hq, single_run]
      rw [hq] at hp
      rw [← hp]
    · have hq : p.q = false := by simpa using hq
      rw [hq, if_neg (by decide), bare_run0 (hx h0 hq) acc (hv.2.2.2.2 hq).1 (hv.2.2.2.2 hq).2]
      rw [hq] at hp
      rw [← hp]
  · obtain ⟨r, hr⟩ := body_head h h0
    rw [pr_body p h0, wrapQ]
    by_cases hq : p.q = true
    · rw [if_pos hq]
      simp only [List.cons_append, List.append_assoc, List.nil_append]
      have hu := quoted_unit (skips L) h h0 (d := 30) (by omega) x
      have hone : outOne P (34 :: (body p ++ 34 :: x)) = .ok ([p], (body p).length + 2) := by
        simp only [outOne]
        rw [if_neg (by decide), if_pos (by decide), hu]
        simp only [List.length_append, List.length_cons]
        rw [if_neg (by decide), if_pos trivial, show (body p).length + (x.length + 1) - x.length - 1 = (body p).length by omega, List.take_left, dbl_back hP h h0 hq hM]
        simp only [Rs.and]
        rw [show (body p).length + (x.length + 1) + 1 - x.length = (body p).length + 2 by omega]
      rw [run_cons hone]
      have e : (34 :: (body p ++ 34 :: x)).drop ((body p).length + 2) = x := by
        simp
      rw [e]
      rfl
    · have hq : p.q = false := by simpa using hq
      rw [hq, if_neg (by decide)]
      have hd := dollar_back hP h h0 hM x
      rw [hq] at hd
      have e : (body p ++ x).drop (body p).length = x := List.drop_left
      rw [hr] at hd e ⊢
      rw [List.cons_append] at hd e ⊢
      have hone : outOne P (36 :: (r ++ x)) = .ok ([p], (36 :: r).length) := by
        simp only [outOne, if_true, hd, Rs.and]
      rw [run_cons hone, e]
      rfl
theorem parts_run {L : Nat} {P : Txt → Rs (List Pt)} (hP : ∀ m w, OkL L true m w → m ≤ 30 → P (prL w) = .ok w) {b : Bool} {M : Nat} (hM : M ≤ 30) : ∀ {l : List Pt} (acc : List Pt), Norm l → (∀ p ∈ l, VP (OkL L true) b M p) → run P acc (prL l) = .ok (l.foldl addP acc)
  | [], acc, _, _ => rfl
  | p :: l, acc, hn, h => by
    have hl : ∀ x ∈ l, VP (OkL L true) b M x := fun x hx => h x (by simp [hx])
    have ha := fun h0 hq => after (z := []) hn hl h0 hq noD_nil
    rw [List.append_nil] at ha
    simp only [prL]
    rw [part_run hP (h p (by simp)) hM acc ha]
    exact parts_run hP hM _ hn.tail hl
/-- Parts as a parser leaves them: their text, parsed, is these parts. -/
theorem back_ok : ∀ (L : Nat) {b : Bool} {M : Nat} {l : List Pt}, OkL L b M l → M ≤ 30 → wpL L (prL l) = .ok l
  | 0, _, _, _, h, _ => by cases h
  | L + 1, b, M, l, h, hM => by
    have := parts_run (P := wpL L) (fun m w hw hm => back_ok L hw hm) hM [] h.1 h.2
    rw [fold_norm (by simpa using h.1)] at this
    exact this
end Go.Proofs.YtckcdbkggaoomaaDoor
