/- The program's parser of words, walked: its loop, what is in quotes, and Parse. Conditions: texts of fewer than a million bytes. -/
import Derived.Test.YtcoeiiihmpnagaaDoorWdPar
namespace Go.Proofs.YtcoeiiihmpnagaaDoor
open Go.RowKit Vc
variable {w : World}

/-- What taking from the parser's text comes to. -/
def OPost (w : World) (g B : Nat) (l : List Pt) (q : Bool) (d : Int) (s : Txt) (x : Rs (List Pt × Nat)) (e : Ending) (w' : World) : Prop := (match x with
  | .ok p => e = .returned (.int .i64 0) ∧ PS w' g B (s.drop p.2) (p.1.foldl addP l) q d
  | .bad k => e = .returned (.int .i64 (k : Int)) ∧ ∃ s' v', PRow w' g s' v' q d) ∧ MP g B w w'
theorem DPost.one {g B : Nat} {l : List Pt} {q : Bool} {d : Int} {s : Txt} {x : Rs (Pt × Nat)} {e : Ending} {w' : World} (h : DPost w g B l q d s x e w') : OPost w g B l q d s (x.and fun y => .ok ([y.1], y.2)) e w' := by
  cases x with
  | ok p => exact h
  | bad k => exact h
def oneQ (q : Bool) (L : Nat) : Txt → Rs (List Pt × Nat) := if q = true then dblOne (wpL L) else outOne (wpL L)
theorem oneQ_takes (q : Bool) (L : Nat) : Takes1 (oneQ q L) := by
  unfold oneQ
  split
  · exact dblOne_takes _
  · exact outOne_takes _
theorem oneQ_bears (q : Bool) (L : Nat) : Bears (oneQ q L) := by
  unfold oneQ
  split
  · exact dblOne_bears (wpL_wt L)
  · exact outOne_bears (wpL_wt L)
theorem oneQ_nz (q : Bool) (L : Nat) (c : UInt8) (r : Txt) : oneQ q L (c :: r) ≠ .bad 0 := by
  unfold oneQ
  split
  · exact dblOne_nz (wpL_nz L) c r
  · exact outOne_nz (wpL_nz L) c r
theorem oneQ_dollar (q : Bool) (L : Nat) (r : Txt) : oneQ q L (36 :: r) = (dollarF (wpL L) q (36 :: r)).and fun y => .ok ([y.1], y.2) := by
  cases q
  · simp only [oneQ, outOne, Bool.false_eq_true, if_false, if_true]
  · simp only [oneQ, dblOne, if_true]
theorem loop_step {one : Txt → Rs (List Pt × Nat)} (ht : Takes1 one) (l : List Pt) (c : UInt8) (r : Txt) : loopF one ((c :: r).length + 1) l (c :: r) = (one (c :: r)).and fun x => loopF one (((c :: r).drop x.2).length + 1) (x.1.foldl addP l) ((c :: r).drop x.2) := by
  show (one (c :: r)).and (fun x => loopF one (c :: r).length (x.1.foldl addP l) ((c :: r).drop x.2)) = _
  cases h : one (c :: r) with
  | bad k => rfl
  | ok x =>
    have h2 := ht _ _ h
    simp only [Rs.and]
    refine loopF_more ht _ _ _ _ ?_ (Nat.lt_succ_self _)
    rw [List.length_drop]
    omega
def parLen (g : Nat) (w : World) : Nat := match w.cell? ⟨g, 0, none⟩ with
  | some (.string s) => s.size
  | _ => 0
theorem PRow.len {g : Nat} {s : Txt} {v : Value} {q : Bool} {d : Int} (h : PRow w g s v q d) : parLen g w = s.length := by
  unfold parLen
  rw [h.text]
  rfl
def RunPost (w : World) (g B : Nat) (q : Bool) (d : Int) (L : Nat) (l : List Pt) (s : Txt) (e : Ending) (w' : World) : Prop := (match loopF (oneQ q L) (s.length + 1) l s with
  | .ok l' => e = .returned (.int .i64 0) ∧ PS w' g B [] l' q d
  | .bad k => e = .returned (.int .i64 (k : Int)) ∧ ∃ s' v', PRow w' g s' v' q d) ∧ MP g B w w'
def QuoteS (L : Nat) : Prop := ∀ (w : World) (g B : Nat) (c : UInt8) (r : Txt) (l : List Pt), PS w g B (c :: r) l false (30 - (L : Int)) → g < B → B ≤ w.heap.size → (c = 92 ∨ c = 39 ∨ c = 34) → (c :: r).length < 1000000 → wtL l + 12 * (c :: r).length < 500000000 →
  Calls Tryd.prog fn_word_parser_quote #[.pointer (some ⟨g, 0, none⟩)] w (OPost w g B l false (30 - (L : Int)) (c :: r) (outOne (wpL L) (c :: r)))
theorem escape_has (c : UInt8) : ([36, 96, 34, 92] : Txt).contains c = true ↔ (c = 36 ∨ c = 96 ∨ c = 34 ∨ c = 92) := by simp
theorem escaped_of {L g B : Nat} {c : UInt8} {r : Txt} {l : List Pt} {d : Int} (hs : PS w g B (c :: r) l true d) (hc : c ≠ 36) (hg : g < B) (hB : B ≤ w.heap.size) (hl : (c :: r).length < 1000000) (hw : wtL l + 12 * (c :: r).length < 500000000) :
    Calls Tryd.prog fn_word_parser_escaped #[.pointer (some ⟨g, 0, none⟩)] w (fun e w' => ∃ b : Bool, e = .returned (.bool b) ∧ (b = true → OPost w g B l true d (c :: r) (dblOne (wpL L) (c :: r)) (.returned (.int .i64 0)) w') ∧ (b = false → w' = w ∧ dblOne (wpL L) (c :: r) = .ok ([tx true [c]], 1))) := by
  obtain ⟨v, hr, ho⟩ := hs
  simp only [List.length_cons] at hl hw
  refine word_parser_escaped_calls _ _ _ ?_
  have no : ¬ (c = 92 ∧ (r.head? = some 36 ∨ r.head? = some 96 ∨ r.head? = some 34 ∨ r.head? = some 92)) → (∃ b : Bool, Ending.returned (.bool false) = .returned (.bool b) ∧ (b = true → OPost w g B l true d (c :: r) (dblOne (wpL L) (c :: r)) (.returned (.int .i64 0)) w) ∧ (b = false → w = w ∧ dblOne (wpL L) (c :: r) = .ok ([tx true [c]], 1))) := by
    intro h
    refine ⟨false, rfl, fun e => (by cases e), fun _ => ⟨rfl, ?_⟩⟩
    simp only [dblOne]
    rw [if_neg hc, if_neg h]
  refine ⟨_, hr.text, bsel_of (fun h => ?_) (fun h => ⟨_, hr.text, by decide, c, rfl, bsel_of (fun h2 => ?_) (fun h2 => ?_)⟩)⟩
  · have h := of_decide_eq_true h
    simp only [List.length_cons] at h
    have : r = [] := List.eq_nil_of_length_eq_zero (by omega)
    subst this
    exact no fun e => by rcases e.2 with e | e | e | e <;> cases e
  · have h2 : ¬ c = 92 := fun e => nt h2 (byte_eq.2 e)
    exact no fun e => h2 e.1
  · have h2 : c = 92 := byte_eq.1 (nf h2)
    subst h2
    have h := of_decide_eq_false h
    simp only [List.length_cons] at h
    obtain ⟨b, y, rfl⟩ : ∃ b y, r = b :: y := by
      cases r with
      | nil => simp at h
      | cons b y => exact ⟨b, y, rfl⟩
    refine ⟨_, hr.text, by decide, b, rfl, (index_spec _ b).mono ?_⟩
    rintro _ w1 ⟨⟨n, rfl, hn⟩, rfl⟩
    have hd : dblOne (wpL L) (92 :: b :: y) = if (b = 36 ∨ b = 96 ∨ b = 34 ∨ b = 92) then .ok ([tx true [b]], 2) else .ok ([tx true [92]], 1) := by
      simp [dblOne]
    refine .inl ⟨_, rfl, bsel_of (fun h3 => ?_) (fun h3 => ⟨_, hr.text, by decide, by decide, by simp only [List.length_cons]; omega, ?_⟩)⟩
    · have h3 : n < 0 := of_decide_eq_true h3
      have h4 : ¬ ([36, 96, 34, 92] : Txt).contains b = true := by
        rw [← hn, decide_eq_true_eq]
        omega
      rw [escape_has] at h4
      exact no fun e => h4 (by simpa using e.2)
    · have h3 : ¬ n < 0 := of_decide_eq_false h3
      have h4 : ([36, 96, 34, 92] : Txt).contains b = true := by
        rw [← hn, decide_eq_true_eq]
        omega
      rw [escape_has] at h4
      refine (put_spec (x := tx false [b]) (vw := .slice none 0 0) (n := 2) hr ho hg hB (SlAt.nil _ _ _ _) (by simp only [List.length_cons]; omega) (by rw [tx_wt]; simp only [List.length_cons, List.length_nil] at hw ⊢; omega)).mono ?_
      rintro _ w2 ⟨rfl, h2, m2⟩
      refine .inl ⟨rfl, true, rfl, fun _ => ?_, fun e => (by cases e)⟩
      rw [hd, if_pos h4]
      exact ⟨⟨rfl, h2⟩, m2⟩
set_option maxHeartbeats 1000000 in
theorem run_of {L : Nat} (hL : L ≤ 30) (ih : ParseS L) {q : Bool} (hq : q = false → QuoteS L) {g B : Nat} {s : Txt} {l : List Pt} (hs : PS w g B s l q (30 - (L : Int))) (hg : g < B) (hB : B ≤ w.heap.size) (hl : s.length < 1000000) (hw : wtL l + 12 * s.length < 500000000) :
    Calls Tryd.prog fn_word_parser_run #[.pointer (some ⟨g, 0, none⟩)] w (RunPost w g B q (30 - (L : Int)) L l s) := by
  refine word_parser_run_calls _ _ _ ?_
  refine ⟨fun ex w1 => ((∃ s1 l1, ex = 0 ∧ PS w1 g B s1 l1 q (30 - (L : Int)) ∧ loopF (oneQ q L) (s1.length + 1) l1 s1 = loopF (oneQ q L) (s.length + 1) l s ∧ wtL l1 + 12 * s1.length ≤ wtL l + 12 * s.length ∧ s1.length ≤ s.length) ∨ (∃ (k : Nat) (s' : Txt) (v' : Value), k ≠ 0 ∧ ex = (k : Int) ∧ loopF (oneQ q L) (s.length + 1) l s = .bad k ∧ PRow w1 g s' v' q (30 - (L : Int)))) ∧ MP g B w w1,
    fun ex w1 => if ex = 0 then 1 + parLen g w1 else 0, ⟨.inl ⟨s, l, rfl, hs, rfl, Nat.le_refl _, Nat.le_refl _⟩, Mod.refl _ _⟩, ?_⟩
  rintro ex _ w1 ⟨h1 | ⟨k, s', v', hk, rfl, hT, hr1⟩, m1⟩
  rotate_left
  · refine ⟨_, hr1.text, bsel_of (fun _ => bsel_of (fun h => absurd (of_decide_eq_true h) (by omega)) (fun _ => ?_)) (fun _ => ?_)⟩
    · refine ⟨?_, m1⟩
      rw [hT]
      exact ⟨rfl, _, _, hr1⟩
    · refine ⟨?_, m1⟩
      rw [hT]
      exact ⟨rfl, _, _, hr1⟩
  obtain ⟨s1, l1, rfl, hs1, hT, hw1, hl1⟩ := h1
  have hs1' := hs1
  obtain ⟨v1, hr1, ho1⟩ := hs1
  have hz := m1.size
  refine ⟨_, hr1.text, bsel_of (fun hne => ?_) (fun he => ?_)⟩
  rotate_left
  · have he : s1 = [] := nf he
    subst he
    refine ⟨?_, m1⟩
    rw [← hT]
    exact ⟨rfl, hs1'⟩
  have hne : s1 ≠ [] := nt hne
  obtain ⟨c, r, rfl⟩ := List.exists_cons_of_ne_nil hne
  -- what a taking comes to, for the loop
  have next : ∀ (e : Ending) (w2 : World), OPost w1 g B l1 q (30 - (L : Int)) (c :: r) (oneQ q L (c :: r)) e w2 → ∃ n : Int, e = .returned (.int .i64 n) ∧ (((∃ s1 l1, n = 0 ∧ PS w2 g B s1 l1 q (30 - (L : Int)) ∧ loopF (oneQ q L) (s1.length + 1) l1 s1 = loopF (oneQ q L) (s.length + 1) l s ∧ wtL l1 + 12 * s1.length ≤ wtL l + 12 * s.length ∧ s1.length ≤ s.length) ∨ (∃ (k : Nat) (s' : Txt) (v' : Value), k ≠ 0 ∧ n = (k : Int) ∧ loopF (oneQ q L) (s.length + 1) l s = .bad k ∧ PRow w2 g s' v' q (30 - (L : Int)))) ∧ MP g B w w2) ∧ (if n = 0 then 1 + parLen g w2 else 0) < (if (0 : Int) = 0 then 1 + parLen g w1 else 0) := by
    rintro e w2 ⟨h2, m2⟩
    rw [loop_step (oneQ_takes q L)] at hT
    rw [if_pos rfl, hr1.len]
    cases ho : oneQ q L (c :: r) with
    | ok x =>
      rw [ho] at h2 hT
      obtain ⟨rfl, hs2⟩ := h2
      have ht := oneQ_takes q L _ _ ho
      have hb := oneQ_bears q L _ _ ho
      have hf := wt_fold x.1 l1
      have hdl : ((c :: r).drop x.2).length = (c :: r).length - x.2 := List.length_drop
      refine ⟨0, rfl, ⟨.inl ⟨_, _, rfl, hs2, hT, by omega, by omega⟩, m1.trans m2⟩, ?_⟩
      obtain ⟨v2, hr2, _⟩ := hs2
      rw [if_pos rfl, hr2.len]
      omega
    | bad k =>
      rw [ho] at h2 hT
      obtain ⟨rfl, s', v', hr2⟩ := h2
      have hk : k ≠ 0 := fun e => oneQ_nz q L c r (by rw [ho, e])
      refine ⟨_, rfl, ⟨.inr ⟨k, s', v', hk, rfl, hT.symm, hr2⟩, m1.trans m2⟩, ?_⟩
      rw [if_neg (by omega)]
      omega
  have hlc : (c :: r).length < 1000000 := by omega
  have hwc : wtL l1 + 12 * (c :: r).length < 500000000 := by omega
  refine bsel_of (fun _ => ⟨_, hr1.text, by decide, c, rfl, bsel_of (fun h36 => ?_) (fun h36 => ?_)⟩) (fun h => absurd rfl (of_decide_eq_false h))
  · have h36 : c = 36 := byte_eq.1 (of_decide_eq_true h36)
    subst h36
    refine (dollar_of hL ih hs1' hg (by omega) hlc hwc).mono ?_
    intro e w2 h2
    have := DPost.one h2
    rw [← oneQ_dollar] at this
    obtain ⟨n, he, hi, hm⟩ := next e w2 this
    exact .inl ⟨n, he, hi, hm⟩
  have h36 : ¬ c = 36 := fun e => of_decide_eq_false h36 (byte_eq.2 e)
  -- one byte is put
  have byte : ∀ (w5 : World), w5 = w1 → oneQ q L (c :: r) = .ok ([tx q [c]], 1) → Calls Tryd.prog fn_word_parser_put #[.pointer (some (Addr.mk g 0 none)), (.agg #[(.int .i64 0), (.bool false), (.string (S ((c :: r : Txt).take (Int.toNat (1 : Int))))), (.string (S ([] : List UInt8))), (.string (S ([] : List UInt8))), (.slice none 0 0)]), (.int .i64 (1 : Int))] w5 (fun ed w7 => (ed = .returned (.tuple #[]) ∧ (((∃ s1 l1, (0 : Int) = 0 ∧ PS w7 g B s1 l1 q (30 - (L : Int)) ∧ loopF (oneQ q L) (s1.length + 1) l1 s1 = loopF (oneQ q L) (s.length + 1) l s ∧ wtL l1 + 12 * s1.length ≤ wtL l + 12 * s.length ∧ s1.length ≤ s.length) ∨ (∃ (k : Nat) (s' : Txt) (v' : Value), k ≠ 0 ∧ (0 : Int) = (k : Int) ∧ loopF (oneQ q L) (s.length + 1) l s = .bad k ∧ PRow w7 g s' v' q (30 - (L : Int)))) ∧ MP g B w w7) ∧ (if (0 : Int) = 0 then 1 + parLen g w7 else 0) < (if (0 : Int) = 0 then 1 + parLen g w1 else 0)) ∨ (∃ ch, ed = .panicked ch ∧ RunPost w g B q (30 - (L : Int)) L l s (.panicked ch) w7)) := by
    rintro _ rfl ho
    refine (put_spec (x := tx false [c]) (vw := .slice none 0 0) (n := 1) hr1 ho1 hg (by omega) (SlAt.nil _ _ _ _) (by simp) (by rw [tx_wt]; simp only [List.length_cons, List.length_nil] at hwc ⊢; omega)).mono ?_
    rintro _ w7 ⟨rfl, h7, m7⟩
    have e : setq (tx false [c]) q = tx q [c] := by simp [setq, tx, Pt.k, Pt.q, Pt.t, Pt.n, Pt.o, Pt.w]
    rw [e] at h7
    obtain ⟨n, he, hi, hm⟩ := next (.returned (.int .i64 0)) w7 (by rw [ho]; exact ⟨⟨rfl, h7⟩, m7⟩)
    obtain rfl : n = 0 := by
      injection he with he
      injection he with _ he
      exact he.symm
    exact .inl ⟨rfl, hi, hm⟩
  refine ⟨fun b w4 => (b = true → (((∃ s1 l1, (0 : Int) = 0 ∧ PS w4 g B s1 l1 q (30 - (L : Int)) ∧ loopF (oneQ q L) (s1.length + 1) l1 s1 = loopF (oneQ q L) (s.length + 1) l s ∧ wtL l1 + 12 * s1.length ≤ wtL l + 12 * s.length ∧ s1.length ≤ s.length) ∨ (∃ (k : Nat) (s' : Txt) (v' : Value), k ≠ 0 ∧ (0 : Int) = (k : Int) ∧ loopF (oneQ q L) (s.length + 1) l s = .bad k ∧ PRow w4 g s' v' q (30 - (L : Int)))) ∧ MP g B w w4) ∧ (if (0 : Int) = 0 then 1 + parLen g w4 else 0) < (if (0 : Int) = 0 then 1 + parLen g w1 else 0)) ∧ (b = false → w4 = w1 ∧ (q = true → oneQ q L (c :: r) = .ok ([tx q [c]], 1))), ⟨q, by rw [add_row]; exact hr1.quoted, bsel_of (fun hqt => ?_) (fun hqf => ?_)⟩, ?_⟩
  · subst hqt
    refine (escaped_of (L := L) hs1' h36 hg (by omega) hlc hwc).mono ?_
    rintro _ w3 ⟨b, rfl, hb1, hb2⟩
    refine .inl ⟨b, rfl, fun hb => ?_, fun hb => ?_⟩
    · obtain ⟨n, he, hi, hm⟩ := next _ w3 (show OPost w1 g B l1 true (30 - (L : Int)) (c :: r) (oneQ true L (c :: r)) (.returned (.int .i64 0)) w3 from hb1 hb)
      obtain rfl : n = 0 := by
        injection he with he
        injection he with _ he
        exact he.symm
      exact ⟨hi, hm⟩
    · exact ⟨(hb2 hb).1, fun _ => (hb2 hb).2⟩
  · exact ⟨fun e => (by cases e), fun _ => ⟨rfl, fun e => by rw [hqf] at e; cases e⟩⟩
  rintro b _ w4 ⟨hb1, hb2⟩
  refine bsel_of (fun hb => hb1 hb) (fun hb => ?_)
  obtain ⟨rfl, hq1⟩ := hb2 hb
  refine ⟨q, by rw [add_row]; exact hr1.quoted, bsel_of (fun hqf => ?_) (fun hqt => ?_)⟩
  · have hqf : q = false := by simpa using hqf
    subst hqf
    refine (index_spec _ c).mono ?_
    rintro _ w5 ⟨⟨n, rfl, hn⟩, rfl⟩
    have hc3 : ([92, 39, 34] : Txt).contains c = true ↔ (c = 92 ∨ c = 39 ∨ c = 34) := by simp
    refine .inl ⟨_, rfl, bsel_of (fun h0 => ?_) (fun h0 => ⟨_, hr1.text, by decide, by simp only [List.length_cons]; omega, byte w5 rfl ?_⟩)⟩
    · have h0 : ([92, 39, 34] : Txt).contains c = true := by rw [← hn]; exact h0
      refine (hq rfl w5 g B c r l1 hs1' hg (by omega) (hc3.1 h0) hlc hwc).mono ?_
      intro e w6 h6
      obtain ⟨n, he, hi, hm⟩ := next e w6 h6
      exact .inl ⟨n, he, hi, hm⟩
    · have h0 : ¬ ([92, 39, 34] : Txt).contains c = true := by rw [← hn, h0]; decide
      rw [hc3] at h0
      simp only [oneQ, outOne, Bool.false_eq_true, if_false]
      rw [if_neg h36, if_neg h0]
  · have hqt : q = true := by simpa using hqt
    exact ⟨_, hr1.text, by decide, by simp only [List.length_cons]; omega, byte w4 rfl (hq1 hqt)⟩
theorem fold_take {l' l : List Pt} {k : Nat} (h : k < l'.length) : (l'.take (k + 1)).foldl addP l = addP ((l'.take k).foldl addP l) l'[k] := by
  rw [take_one h, List.foldl_append]
  rfl
set_option maxHeartbeats 1000000 in
theorem quote_of {L : Nat} (hL : L ≤ 30) (ih : ParseS L) : QuoteS L := by
  intro w g B c r l hs hg hB hc hl hw
  have hs' := hs
  obtain ⟨v, hr, ho⟩ := hs
  refine word_parser_quote_calls _ _ _ ?_
  refine ⟨_, hr.text, (Unit_spec _ hl).mono ?_⟩
  rintro _ w1 ⟨rfl, s1⟩
  have hr1 : PRow w1 g _ v false _ := hr.still s1
  have ho1 := ho.still s1
  have z1 := s1.size
  simp only [List.length_cons] at hl hw
  have hc36 : ¬ c = 36 := by rcases hc with rfl | rfl | rfl <;> decide
  have hout : outOne (wpL L) (c :: r) = (match unitD 30 (c :: r) with
      | none => .bad 90
      | some t =>
        if c = 92 then .ok ([tx true (r.take 1)], 2)
        else if c = 34 then (dblF (wpL L) (r.take (r.length - t.length - 1))).and fun l => .ok (l, r.length + 1 - t.length)
        else .ok ([tx true (r.take (r.length - t.length - 1))], r.length + 1 - t.length)) := by
    simp only [outOne]
    rw [if_neg hc36, if_pos hc]
    cases unitD 30 (c :: r) <;> rfl
  rw [hout]
  refine .inl ⟨_, rfl, ?_⟩
  cases hu : unitD 30 (c :: r) with
  | none =>
    have h0 : unitN (c :: r) = 0 := by unfold unitN; rw [hu]
    rw [h0]
    exact bsel_of (fun _ => ⟨⟨rfl, _, _, hr1⟩, s1.mp⟩) (fun h => absurd (of_decide_eq_false h) (by decide))
  | some t =>
    obtain ⟨h1, h2, h3⟩ := unitN_pos hu
    simp only [List.length_cons] at h1 h3
    have h92 : c = 92 → ∃ b, r = b :: t := by
      rintro rfl
      cases r with
      | nil => cases hu
      | cons b y =>
        have : some y = some t := hu
        injection this with this
        exact ⟨b, by rw [this]⟩
    have h5 : 2 ≤ unitN (c :: r) := by
      rcases Decidable.em (c = 92) with e | e
      · obtain ⟨b, rfl⟩ := h92 e
        simp only [List.length_cons] at h1
        omega
      · have := quote_len (hc.resolve_left e) hu
        omega
    generalize hn : unitN (c :: r) = n at h1 h2 h3 h5
    dsimp only
    have emx : (if IntKind.i64.wrap ((n : Int) - 1) > 1 then IntKind.i64.wrap ((n : Int) - 1) else 1) = ((n - 1 : Nat) : Int) := by
      rw [wrap_i64 (by omega) (by omega)]
      split <;> omega
    rw [emx]
    have hin : (((c :: r : Txt).drop (Int.toNat 1)).take (Int.toNat ((n - 1 : Nat) : Int) - Int.toNat 1)) = r.take (r.length - t.length - 1) := by
      rw [Int.toNat_natCast]
      show r.take (n - 1 - 1) = _
      congr 1
      omega
    have e2 : r.length + 1 - t.length = n := by omega
    rw [e2]
    have put : ∀ (tt : Txt) (w6 : World), w6 = w1 → tt.length ≤ r.length → Calls Tryd.prog fn_word_parser_put #[.pointer (some ⟨g, 0, none⟩), pagg (tx true tt) (.slice none 0 0), .int .i64 (n : Int)] w6 (fun ed w7 => (ed = .returned (.tuple #[]) ∧ OPost w g B l false (30 - (L : Int)) (c :: r) (.ok ([tx true tt], n)) (.returned (.int .i64 0)) w7) ∨ (∃ ch, ed = .panicked ch ∧ OPost w g B l false (30 - (L : Int)) (c :: r) (.ok ([tx true tt], n)) (.panicked ch) w7)) := by
      rintro tt _ rfl htt
      refine (put_spec (x := tx true tt) (n := n) hr1 ho1 hg (by omega) (SlAt.nil _ _ _ _) (by simp only [List.length_cons]; omega) (by rw [tx_wt]; omega)).mono ?_
      rintro _ w7 ⟨rfl, h7, m7⟩
      exact .inl ⟨rfl, ⟨rfl, h7⟩, s1.mp.trans m7⟩
    refine bsel_of (fun h => absurd (of_decide_eq_true h) (by omega)) (fun _ => ⟨c :: r, hr1.text, by decide, by omega, by simp only [List.length_cons]; omega, ?_⟩)
    rw [hin]
    refine ⟨_, hr1.text, by decide, c, rfl, bsel_of (fun h => ?_) (fun h => bsel_of (fun h34 => ?_) (fun h34 => ?_))⟩
    · have h : c = 92 := byte_eq.1 (of_decide_eq_true h)
      obtain ⟨b, rfl⟩ := h92 h
      rw [if_pos h]
      simp only [List.length_cons] at h1
      have hn2 : n = 2 := by omega
      rw [hn2] at put ⊢
      exact ⟨_, hr1.text, by decide, by decide, by simp only [List.length_cons]; omega, put [b] w1 rfl (by simp)⟩
    · have h : ¬ c = 92 := fun e => of_decide_eq_false h (byte_eq.2 e)
      have h34 : c = 34 := byte_eq.1 (of_decide_eq_true h34)
      rw [if_neg h, if_pos h34]
      refine ⟨_, by rw [add_row]; exact hr1.depth, allocK fun w3 r3 s3 z3 => ?_⟩
      generalize hinn : r.take (r.length - t.length - 1) = inner
      have hil : inner.length ≤ r.length - 1 - t.length := by rw [← hinn, List.length_take]; omega
      rw [hinn] at r3
      have hy : PS w3 w1.heap.size (w1.heap.size + 1) inner [] true (30 - (L : Int)) := ⟨_, r3, OutAt.nil _ _⟩
      refine (run_of hL ih (q := true) (fun e => by cases e) hy (by omega) (by omega) (by omega) (by simp only [wtL]; omega)).mono ?_
      rintro e4 w4 ⟨h4, m4⟩
      have s34 : Still w1 w4 := Mod.trans s3 m4 (fun _ h => h) fun k hk e => by omega
      have hr4 : PRow w4 g _ v false _ := hr1.still s34
      have ho4 := ho1.still s34
      have hloop : loopF (oneQ true L) (inner.length + 1) [] inner = loopF (dblOne (wpL L)) (inner.length + 1) [] inner := rfl
      rw [hloop] at h4
      cases hlp : loopF (dblOne (wpL L)) (inner.length + 1) [] inner with
      | bad k =>
        rw [hlp] at h4
        obtain ⟨rfl, _⟩ := h4
        have hk : k ≠ 0 := fun e => loopF_nz (dblOne_takes _) (dblOne_nz (wpL_nz L)) _ _ _ (Nat.lt_succ_self _) (by rw [hlp, e])
        have hd : dblF (wpL L) inner = .bad k := by
          unfold dblF
          rw [if_neg, hlp]
          rintro rfl
          cases hlp
        rw [hd]
        refine .inl ⟨_, rfl, bsel_of (fun _ => ⟨⟨rfl, _, _, hr4⟩, (s1.trans s34).mp⟩) (fun hh => absurd (nf hh) (by omega))⟩
      | ok l0 =>
        rw [hlp] at h4
        obtain ⟨rfl, hy4⟩ := h4
        refine .inl ⟨_, rfl, bsel_of (fun hh => absurd rfl (nt hh)) (fun _ => ?_)⟩
        obtain ⟨l2, hd, hl2⟩ : ∃ l2, dblF (wpL L) inner = .ok l2 ∧ wtL l2 ≤ 12 * inner.length + 8 := by
          cases hd : dblF (wpL L) inner with
          | ok l2 => exact ⟨l2, rfl, dblF_wt (wpL_wt L) hd⟩
          | bad k =>
            exfalso
            unfold dblF at hd
            split at hd
            · cases hd
            · rw [hlp] at hd; cases hd
        rw [hd]
        -- the parts within
        refine ⟨fun w6 => (∃ v6, PRow w6 w1.heap.size [] v6 true (30 - (L : Int)) ∧ OutAt w6 (w1.heap.size + 1) l2 v6) ∧ Still w1 w6, bsel_of (fun h6 => ?_) (fun h6 => ?_), ?_⟩
        · have h6 : inner = [] := of_decide_eq_true h6
          subst h6
          obtain rfl : l0 = [] := by injection hlp with hlp; exact hlp.symm
          obtain rfl : l2 = [tx true []] := by injection hd with hd; exact hd.symm
          obtain ⟨v4, hr5, ho5⟩ := hy4
          have z4 : w1.heap.size < w4.heap.size := hr5.lt
          refine (put_spec (x := .mk 0 false [] [] [] []) (vw := .slice none 0 0) (n := 0) hr5 ho5 (by omega) (by omega) (SlAt.nil _ _ _ _) (by simp) (by simp [wtL, Pt.wt])).mono ?_
          rintro _ w5 ⟨rfl, h5, m5⟩
          refine .inl ⟨rfl, h5, Mod.trans s34 m5 (fun _ h => h) fun k hk e => by omega⟩
        · have h6 : ¬ inner = [] := of_decide_eq_false h6
          have : l2 = l0 := by
            unfold dblF at hd
            rw [if_neg h6, hlp] at hd
            injection hd with hd
            exact hd.symm
          subst this
          exact ⟨hy4, s34⟩
        rintro _ w6 ⟨⟨v6, hr6y, ho6y⟩, s6⟩
        obtain ⟨p6, c6, xs6, rfl, hown6, hcs6⟩ := ho6y
        have ho6y : OutAt w6 (w1.heap.size + 1) l2 (.slice p6 l2.length c6) := ⟨p6, c6, xs6, rfl, hown6, hcs6⟩
        have hsl6 := ho6y.sl
        have z6 : w1.heap.size < w6.heap.size := hr6y.lt
        have hl2n := wtL_len l2
        refine ⟨p6, l2.length, c6, hr6y.lget rfl, fun x1 w7 => ∃ k : Nat, x1 = (k : Int) ∧ k ≤ l2.length ∧ (∃ v7, PRow w7 g (c :: r) v7 false (30 - (L : Int)) ∧ OutAt w7 B ((l2.take k).foldl addP l) v7 ∧ ∀ j, v7.ownBlock = some j → j < w1.heap.size ∨ w6.heap.size ≤ j) ∧ SlAt w7 (fun j => w1.heap.size + 1 ≤ j ∧ j < w6.heap.size) l2 (.slice p6 l2.length c6) ∧ MP g B w1 w7 ∧ w6.heap.size ≤ w7.heap.size, fun x1 _ => l2.length - x1.toNat, ⟨0, rfl, Nat.zero_le _, ⟨v, hr1.still s6, ho1.still s6, fun j hj => .inl (ho1.ownLt hj).2⟩, hsl6, s6.mp, Nat.le_refl _⟩, ?_⟩
        rintro _ _ w7 ⟨k, rfl, hk, ⟨v7, hr7, ho7, own7⟩, hsl7, m7, z7⟩
        refine bsel_of (fun hx => ?_) (fun hx => ?_)
        rotate_left
        · have hx : k = l2.length := by have := of_decide_eq_false hx; omega
          rw [hx, List.take_length] at ho7
          refine ⟨_, hr7.text, by omega, by simp only [List.length_cons]; omega, ?_⟩
          rw [Int.toNat_natCast]
          refine stK hr7 (by simp) (by simp [Value.oneCell']) fun w12 r12 m12 z12 => ⟨⟨rfl, v7, r12, ho7.mod m12 fun j hj _ e => by omega⟩, (s1.mp.trans m7).trans (m12.weaken fun j hj => .inl hj)⟩
        have hx : k < l2.length := by have := of_decide_eq_true hx; omega
        obtain ⟨b, wp, wc, rfl, c0, c1, c2, c3, c4, c5, hsw⟩ := hsl7.fields hx
        rw [Int.toNat_natCast]
        refine ⟨by omega, by omega, _, _, _, _, _, _, _, _, c0, c1, c2, c3, c4, c5, boxK rfl one6 fun w9 r9 s9 z9 => ?_⟩
        have sd : Still w7 w9.drew := s9.toDrew
        have rd := r9.still (drew_still w9)
        have hr9 : PRow w9.drew g (c :: r) v7 false (30 - (L : Int)) := hr7.still sd
        have ho9 := ho7.still sd
        have zd := sd.size
        obtain ⟨p9, c9, xs9, rfl, hown9, hcs9⟩ := ho9
        have ho9 : OutAt w9.drew B ((l2.take k).foldl addP l) (.slice p9 ((l2.take k).foldl addP l).length c9) := ⟨p9, c9, xs9, rfl, hown9, hcs9⟩
        have hwf := wt_fold (l2.take k) l
        have hwt := wt_take hx
        refine ⟨fun wq => wq = w9.drew, rfl, p9, ((l2.take k).foldl addP l).length, c9, fun wq hq => by subst hq; rw [add_row]; exact hr9.lget rfl, _, _, _, _, _, _, _, _, fun wq hq => by subst hq; exact rd.lget rfl, fun wq hq => by subst hq; exact rd.lget rfl, fun wq hq => by subst hq; exact rd.lget rfl, fun wq hq => by subst hq; exact rd.lget rfl, fun wq hq => by subst hq; exact rd.lget rfl, fun wq hq => by subst hq; exact rd.lget rfl, ?_⟩
        refine (add_spec (x := l2[k]) ho9 (by omega) ((hsw.still sd).mono fun j hj => ⟨by omega, by omega, fun e => by rcases own7 j e with e | e <;> omega⟩) (by omega)).mono ?_
        rintro _ w10 ⟨v10, rfl, ho10, m10, own10⟩
        obtain ⟨p10, c10, xs10, rfl, hown10, hcs10⟩ := ho10
        have ho10 : OutAt w10 B (addP ((l2.take k).foldl addP l) l2[k]) (.slice p10 (addP ((l2.take k).foldl addP l) l2[k]).length c10) := ⟨p10, c10, xs10, rfl, hown10, hcs10⟩
        have hr10 : PRow w10 g (c :: r) (.slice p9 ((l2.take k).foldl addP l).length c9) false (30 - (L : Int)) := hr9.mod m10 fun e => by have := (ho9.ownLt e).1; omega
        refine .inl ⟨_, _, _, rfl, ?_⟩
        show stCells ((Addr.mk g 0 none).add 1) _ _ _ _
        rw [add_row]
        refine stK hr10 (by simp) (by simp [Value.oneCell']) fun w11 r11 m11 z11 => ?_
        rw [show IntKind.i64.wrap ((k : Int) + 1) = ((k + 1 : Nat) : Int) by rw [wrap_i64 (by omega) (by omega)]; omega]
        have z10 := m10.size
        refine ⟨⟨k + 1, rfl, hx, ⟨_, r11, ?_, fun j hj => ?_⟩, ?_, ?_, ?_⟩, by dsimp only; omega⟩
        · rw [fold_take hx]
          exact ho10.mod m11 fun j hj _ e => by omega
        · rcases own10 j hj with e | e
          · exact own7 j e
          · right; omega
        · refine ((hsl7.still sd).mod m10 fun j hj e => ?_).mod m11 fun j hj e => ?_
          · rcases own7 j e with e | e <;> omega
          · omega
        · exact ((m7.still sd).trans (m10.weaken fun j hj => .inr (ho9.ownLt hj).1)).trans (m11.weaken fun j hj => .inl hj)
        · omega
    · have h : ¬ c = 92 := fun e => of_decide_eq_false h (byte_eq.2 e)
      have h34 : ¬ c = 34 := fun e => of_decide_eq_false h34 (byte_eq.2 e)
      rw [if_neg h, if_neg h34]
      exact put _ w1 rfl (by rw [List.length_take]; omega)
theorem parse_lv : ∀ L, L ≤ 31 → ParseS L
  | 0, _ => by
    intro w s hs
    refine word_parse_calls _ _ _ _ ?_
    exact bsel_of (fun _ => ⟨rfl, Still.refl _⟩) (fun h => absurd (of_decide_eq_false h) (by decide))
  | L + 1, hL => by
    intro w s hs
    have ih := parse_lv L (by omega)
    have e1 : (31 : Int) - ((L + 1 : Nat) : Int) = 30 - (L : Int) := by omega
    rw [e1]
    refine word_parse_calls _ _ _ _ ?_
    refine bsel_of (fun h => absurd (of_decide_eq_true h) (by omega)) (fun _ => allocK fun w1 r1 s1 z1 => ?_)
    have hp : PS w1 w.heap.size (w.heap.size + 1) s [] false (30 - (L : Int)) := ⟨_, r1, OutAt.nil _ _⟩
    refine (run_of (by omega) ih (q := false) (fun _ => quote_of (by omega) ih) hp (by omega) (by omega) hs (by simp only [wtL]; omega)).mono ?_
    rintro e2 w2 ⟨h2, m2⟩
    have s2 : Still w w2 := Mod.trans s1 m2 (fun _ h => h) fun k hk e => by omega
    have hlp : loopF (oneQ false L) (s.length + 1) [] s = wpL (L + 1) s := rfl
    rw [hlp] at h2
    unfold PPost
    cases hw : wpL (L + 1) s with
    | bad k =>
      rw [hw] at h2
      obtain ⟨rfl, _⟩ := h2
      have hk : k ≠ 0 := fun e => wpL_nz (L + 1) s (by rw [hw, e])
      exact .inl ⟨_, rfl, bsel_of (fun _ => ⟨rfl, s2⟩) (fun hh => absurd (nf hh) (by omega))⟩
    | ok l =>
      rw [hw] at h2
      obtain ⟨rfl, v, hr2, ho2⟩ := h2
      obtain ⟨p, c, xs, rfl, hown, hcs⟩ := ho2
      have ho2 : OutAt w2 (w.heap.size + 1) l (.slice p l.length c) := ⟨p, c, xs, rfl, hown, hcs⟩
      exact .inl ⟨_, rfl, bsel_of (fun hh => absurd rfl (nt hh)) (fun _ => ⟨_, _, _, hr2.lget rfl, ⟨_, rfl, ho2.sl.mono fun k hk => ⟨by omega, hk.2⟩⟩, s2⟩)⟩
/-- word.Parse. -/
theorem Parse_spec (s : Txt) (hs : s.length < 1000000) : Calls Tryd.prog fn_word_Parse #[.string (S s)] w (PPost w s 30) := by
  refine word_Parse_calls _ _ _ ?_
  refine (parse_lv 30 (by decide) w s hs).mono ?_
  rintro e w1 h
  unfold PPost at h ⊢
  obtain ⟨h, s1⟩ := h
  cases hw : wpL 30 s with
  | bad k =>
    rw [hw] at h
    exact .inl ⟨_, _, _, _, h, rfl, s1⟩
  | ok l =>
    rw [hw] at h
    obtain ⟨v, rfl, hsl⟩ := h
    obtain ⟨p, c, rfl⟩ := hsl.form
    exact .inl ⟨_, _, _, _, rfl, ⟨_, rfl, hsl⟩, s1⟩
end Go.Proofs.YtcoeiiihmpnagaaDoor
