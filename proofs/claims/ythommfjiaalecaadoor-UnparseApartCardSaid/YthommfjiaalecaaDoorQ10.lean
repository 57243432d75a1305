/- Texts of one proof, one behind the other. Conditions: as each theorem names them. -/
import Derived.Test.YthommfjiaalecaaDoorQ9
namespace Go.Proofs.YthommfjiaalecaaDoor
theorem words_got : ∀ (n : Nat) (acc : List (List Pt)) (s r : Ts) (l : List (List Pt)), many wordsS n acc s = .ok (l, r) → TkOk s → ∃ m, l = acc ++ m ∧ (∀ x ∈ m, Wk x) ∧ lenW m + W r ≤ W s ∧ TkOk r
  | 0, _, _, _, _, h, _ => by cases h
  | n + 1, acc, s, r, l, h, hs => by
    simp only [many] at h
    obtain ⟨y, h1, h⟩ := Rs.and_ok h
    unfold wordsS at h1
    split at h1
    · obtain ⟨⟨x, s1⟩, h2, h1⟩ := Rs.and_ok h1
      injection h1 with h1
      subst h1
      obtain ⟨g1, g2, g3⟩ := parts_got hs h2
      obtain ⟨m, rfl, k1, k2, k3⟩ := words_got n _ _ _ _ h g3
      refine ⟨x :: m, by simp, fun y hy => ?_, ?_, k3⟩
      · rcases List.mem_cons.1 hy with rfl | hy
        · exact g1
        · exact k1 y hy
      · simp only [lenW, List.map_cons, List.sum_cons] at k2 ⊢
        omega
    · injection h1 with h1
      subst h1
      injection h with h
      injection h with e1 e2
      subst e1 e2
      exact ⟨[], by simp, by simp, by simp [lenW], hs⟩
theorem words_fwd {z : Ts} (hz : isW z = false) : ∀ (l acc : List (List Pt)), (∀ x ∈ l, Wk x) → manyF wordsS acc (l.flatMap wT ++ z) = .ok (acc ++ l, z)
  | [], acc, _ => by
    rw [manyF_step wordsS_sinks]
    simp only [List.flatMap_nil, List.nil_append, wordsS, hz, Bool.false_eq_true, if_false, Rs.and, List.append_nil]
  | x :: l, acc, h => by
    have hx := h x (List.mem_cons_self ..)
    have ih := words_fwd hz l (acc ++ [x]) fun y hy => h y (List.mem_cons_of_mem _ hy)
    have hw : ∀ r : Ts, isW ((0, prL x) :: r) = true := fun r => rfl
    rw [manyF_step wordsS_sinks]
    simp only [List.flatMap_cons, wT, List.cons_append, List.nil_append, wordsS, hw, if_true]
    rw [parts_fwd hx]
    simp only [Rs.and]
    rw [ih]
    simp
def oT (l : List Pt) : Ts := [(1, tPipe), (0, prL l)]
def orL (l : List (List Pt)) : Txt := l.flatMap fun x => 32 :: (124 :: 32 :: prL x)
theorem ors_got : ∀ (n : Nat) (acc : List (List Pt)) (s r : Ts) (l : List (List Pt)), many orsS n acc s = .ok (l, r) → TkOk s → ∃ m, l = acc ++ m ∧ (∀ x ∈ m, Wk x) ∧ (orL m).length + W r ≤ W s ∧ TkOk r
  | 0, _, _, _, _, h, _ => by cases h
  | n + 1, acc, s, r, l, h, hs => by
    simp only [many] at h
    obtain ⟨y, h1, h⟩ := Rs.and_ok h
    unfold orsS at h1
    split at h1
    · obtain ⟨⟨x, s1⟩, h2, h1⟩ := Rs.and_ok h1
      injection h1 with h1
      subst h1
      obtain ⟨g1, g2, g3⟩ := parts_got hs.tl h2
      have := W_tail s
      obtain ⟨m, rfl, k1, k2, k3⟩ := ors_got n _ _ _ _ h g3
      refine ⟨x :: m, by simp, fun y hy => ?_, ?_, k3⟩
      · rcases List.mem_cons.1 hy with rfl | hy
        · exact g1
        · exact k1 y hy
      · simp only [orL, List.flatMap_cons, List.length_append, List.length_cons] at k2 ⊢
        omega
    · injection h1 with h1
      subst h1
      injection h with h
      injection h with e1 e2
      subst e1 e2
      exact ⟨[], by simp, by simp, by simp [orL], hs⟩
theorem ors_fwd {z : Ts} (hz : isT 1 tPipe z = false) : ∀ (l acc : List (List Pt)), (∀ x ∈ l, Wk x) → manyF orsS acc (l.flatMap oT ++ z) = .ok (acc ++ l, z)
  | [], acc, _ => by
    rw [manyF_step orsS_sinks]
    simp only [List.flatMap_nil, List.nil_append, orsS, hz, Bool.false_eq_true, if_false, Rs.and, List.append_nil]
  | x :: l, acc, h => by
    have hx := h x (List.mem_cons_self ..)
    have ih := ors_fwd hz l (acc ++ [x]) fun y hy => h y (List.mem_cons_of_mem _ hy)
    rw [manyF_step orsS_sinks]
    simp only [List.flatMap_cons, oT, List.cons_append, List.nil_append, orsS, isT_self, if_true, List.tail_cons]
    rw [parts_fwd hx]
    simp only [Rs.and]
    rw [ih]
    simp
section
variable {cmd br : Pr Nd} (hc : Eats cmd) (hg : Good cmd)
include hc hg
theorem each_good {s r : Ts} {x : Nd} (hs : TkOk s) (h : eachF cmd s = .ok (x, r)) : CoGood cmd br x ((0, tFor) :: s) r := by
  have kFor := Lx.key (u := tFor) (by decide) (by decide) (by decide)
  have kIn := Lx.key (u := tIn) (by decide) (by decide) (by decide)
  match s, hs, h with
  | [], _, h => cases h
  | (k, t) :: s, hs, h =>
    simp only [eachF] at h
    split at h
    · rename_i hk
      have hnm := hk.2
      have hl0 := hs.tail.lines
      have hW0 := W_lines s
      split at h
      · rename_i hi
        obtain ⟨⟨ws, r1⟩, h1, h2⟩ := Rs.and_ok h
        obtain ⟨m, e0, a1, a2, a3⟩ := words_got _ _ _ _ _ h1 hl0.tl
        rw [List.nil_append] at e0
        subst e0
        dsimp only at h2
        split at h2
        · obtain ⟨⟨b, r2⟩, h3, h4⟩ := Rs.and_ok h2
          injection h4 with h4
          injection h4 with e1 e2
          subst e1 e2
          have hb0 : TkOk (linesF (if isT 1 tSemi r1 = true then r1.tail else r1)) := (a3.suf (ite_suf _ r1)).lines
          have hW1 : W (linesF (if isT 1 tSemi r1 = true then r1.tail else r1)) ≤ W r1 := by
            refine Nat.le_trans (W_lines _) ?_
            split
            · exact W_tail r1
            · exact Nat.le_refl _
          obtain ⟨⟨U, u1, u2⟩, u3, u4⟩ := body_good hc hg hb0 h3
          obtain ⟨l1, l2⟩ := lx_flat (f := wT) (g := prL) (l := ws) fun x hx => (a1 x hx).lw.lx
          have e : prN (.mk 8 false t ws [] [] [tIn] [b]) = [102, 111, 114] ++ 32 :: ((t ++ 32 :: ([105, 110] ++ ws.flatMap fun x => 32 :: prL x)) ++ 59 :: 32 :: ([100, 111] ++ 32 :: (prN b ++ 59 :: 32 :: [100, 111, 110, 101]))) := by
            rw [prN_c0 (by decide)]
            simp [compT, kidT, joinT, List.flatMap_map]
          have lx := kFor.cat ((((LW.name hnm).lx.cat (kIn.app l1 l2))).cats u1)
          refine ⟨⟨[(0, tFor)] ++ (([(0, t)] ++ ([(0, tIn)] ++ ws.flatMap wT)) ++ (1, tSemi) :: U), rfl, (by decide : (4 : Int) ≤ 8 ∧ (8 : Int) ≤ 9), by rw [e]; exact lx, fun z => ?_, 0, tFor, _, rfl, .inl ⟨rfl, by decide, by decide⟩⟩, ?_, u4⟩
          · simp only [List.append_assoc, List.cons_append, List.nil_append, comp_for]
            obtain ⟨v1, v2, v3⟩ := u2 z
            simp only [eachF, hnm, and_self, if_true, line_word, isT_self, List.tail_cons]
            rw [words_fwd rfl ws [] a1]
            simp only [Rs.and, isT_self, true_or, if_true, eachE, List.tail_cons, List.nil_append, v3]
            rw [v1]
          · rw [e]
            have hW2 := W_took hi
            simp only [W, lenW, List.length_append, List.length_cons, List.length_nil, len_flat] at a2 u3 hW2 ⊢
            omega
        · cases h2
      · obtain ⟨⟨b, r2⟩, h3, h4⟩ := Rs.and_ok h
        injection h4 with h4
        injection h4 with e1 e2
        subst e1 e2
        generalize hr1 : linesF s = r1 at *
        have hb0 : TkOk (linesF (if isT 1 tSemi r1 = true then r1.tail else r1)) := (hl0.suf (ite_suf _ r1)).lines
        have hW1 : W (linesF (if isT 1 tSemi r1 = true then r1.tail else r1)) ≤ W r1 := by
          refine Nat.le_trans (W_lines _) ?_
          split
          · exact W_tail r1
          · exact Nat.le_refl _
        obtain ⟨⟨U, u1, u2⟩, u3, u4⟩ := body_good hc hg hb0 h3
        have e : prN (.mk 8 false t [] [] [] [] [b]) = [102, 111, 114] ++ 32 :: (t ++ 59 :: 32 :: ([100, 111] ++ 32 :: (prN b ++ 59 :: 32 :: [100, 111, 110, 101]))) := by
          rw [prN_c0 (by decide)]
          simp [compT, kidT]
        have lx := kFor.cat ((LW.name hnm).lx.cats u1)
        refine ⟨⟨[(0, tFor)] ++ ([(0, t)] ++ (1, tSemi) :: U), rfl, (by decide : (4 : Int) ≤ 8 ∧ (8 : Int) ≤ 9), by rw [e]; exact lx, fun z => ?_, 0, tFor, _, rfl, .inl ⟨rfl, by decide, by decide⟩⟩, ?_, u4⟩
        · simp only [List.cons_append, List.nil_append, comp_for]
          obtain ⟨v1, v2, v3⟩ := u2 z
          simp only [eachF, hnm, and_self, if_true, line_op, isT_hd (k := 0) (k' := 1) (t := tIn) (t' := tSemi) (by decide), Bool.false_eq_true, if_false, eachE, isT_self, List.tail_cons, v3]
          rw [v1]
          rfl
        · rw [e]
          simp only [W, List.length_append, List.length_cons, List.length_nil] at u3 ⊢
          omega
    · cases h
structure ItT (cmd : Pr Nd) (x : Nd) (T : Ts) : Prop where
  lex : Lx (T ++ [(1, tSemi2)]) (prN x)
  back : ∀ z, itemF cmd (T ++ (1, tSemi2) :: z) = .ok (x, (1, tSemi2) :: z)
  head : ∃ y, T = (1, tOpen) :: y
theorem item_good {s r : Ts} {x : Nd} (hs : TkOk s) (h : itemF cmd s = .ok (x, r)) : (∃ T, ItT cmd x T) ∧ (prN x).length + 4 + W r ≤ W s ∧ TkOk r := by
  obtain ⟨⟨w, r1⟩, h1, h2⟩ := Rs.and_ok h
  obtain ⟨⟨ws, r2⟩, h3, h4⟩ := Rs.and_ok h2
  have hs0 : TkOk (if isT 1 tOpen s = true then s.tail else s) := hs.suf (ite_suf _ s)
  have hW0 : W (if isT 1 tOpen s = true then s.tail else s) ≤ W s := by
    split
    · exact W_tail s
    · exact Nat.le_refl _
  obtain ⟨a1, a2, a3⟩ := parts_got hs0 h1
  obtain ⟨m, e0, b1, b2, b3⟩ := ors_got _ _ _ _ _ h3 a3
  dsimp only at h4
  split at h4
  · rename_i hp
    obtain ⟨⟨l, r3⟩, h5, h6⟩ := Rs.and_ok h4
    injection h6 with h6
    injection h6 with e1 e2
    subst e1 e2
    obtain ⟨⟨T, t1, t2⟩, c2, c3, _⟩ := list_good hc hg b3.tl h5
    have hW := W_took hp
    have e : prN (.mk 10 false [] ws [] [] [] [l]) = [40] ++ 32 :: ((prL w ++ orL m) ++ 32 :: ([41] ++ 32 :: (prN l ++ [59, 59]))) := by
      rw [prN_eq, e0]
      show formT 10 false [] (([w] ++ m).map prL) [] [] [] (prNs [l]) = _
      simp [formT, kidT, joinT, prNs_map, orL, List.flatMap_map]
    have l1 : Lx (m.flatMap oT) (orL m) ∧ WEnd (orL m) := lx_flat (f := oT) (g := fun x => 124 :: 32 :: prL x) fun x hx => (Lx.op (o := tPipe) (by decide)).cat (b1 x hx).lw.lx
    have lx := (Lx.op (o := tOpen) (by decide)).cat ((a1.lw.lx.app l1.1 l1.2).cat ((Lx.op (o := tShut) (by decide)).cat (t1.app Lx.semi2 .semi)))
    refine ⟨⟨[(1, tOpen)] ++ (([(0, prL w)] ++ m.flatMap oT) ++ ([(1, tShut)] ++ T)), ?_, fun z => ?_, _, rfl⟩, ?_, c3⟩
    · rw [e]
      simp only [List.append_assoc, List.cons_append, List.nil_append] at lx ⊢
      exact lx
    · unfold itemF
      simp only [List.append_assoc, List.cons_append, List.nil_append, isT_self, if_true, List.tail_cons]
      rw [parts_fwd a1]
      simp only [Rs.and]
      rw [ors_fwd (isT_hd (by decide)) m [w] b1]
      simp only [isT_self, if_true, List.tail_cons]
      rw [t2 _ (.inr ⟨tSemi2, z, rfl, by decide⟩), e0]
    · rw [e]
      dsimp only at b2
      simp only [List.length_append, List.length_cons, List.length_nil] at hW ⊢
      omega
  · cases h4
end
def itL (l : List Nd) : Txt := l.flatMap fun x => 32 :: prN x
theorem case_stop {cmd : Pr Nd} (hc : Eats cmd) (w : List Pt) (ks : List Nd) (z : Ts) : manyF (caseS cmd w) ks ((0, tEsac) :: z) = .ok (.mk 9 false [] [w] [] [] [] ks, z) := by
  rw [manyF_step (caseS_sinks hc w)]
  simp only [caseS, isT_self, if_true, Rs.and, List.tail_cons]
theorem case_fwd {cmd : Pr Nd} (hc : Eats cmd) (w : List Pt) : ∀ (l ks : List Nd), (∀ x ∈ l, ∃ T, ItT cmd x T) → ∃ T, Lx T (itL l ++ 32 :: tEsac) ∧ WEnd (itL l ++ 32 :: tEsac) ∧ ∀ z, manyF (caseS cmd w) ks (T ++ z) = .ok (.mk 9 false [] [w] [] [] [] (ks ++ l), z) ∧ linesF (T ++ z) = T ++ z
  | [], ks, _ => by
    refine ⟨[(0, tEsac)], (Lx.key (u := tEsac) (by decide) (by decide) (by decide)).sp, .sp, fun z => ⟨?_, line_word⟩⟩
    rw [List.append_nil]
    exact case_stop hc w ks z
  | x :: l, ks, h => by
    obtain ⟨T, hT⟩ := h x (List.mem_cons_self ..)
    obtain ⟨U, g1, g2, g3⟩ := case_fwd hc w l (ks ++ [x]) fun y hy => h y (List.mem_cons_of_mem _ hy)
    obtain ⟨y, hy⟩ := hT.head
    refine ⟨(T ++ [(1, tSemi2)]) ++ U, ?_, .sp, fun z => ⟨?_, ?_⟩⟩
    · have e : itL (x :: l) ++ 32 :: tEsac = 32 :: prN x ++ (itL l ++ 32 :: tEsac) := by simp [itL]
      rw [e]
      exact hT.lex.sp.app g1 g2
    · obtain ⟨v1, v2⟩ := g3 z
      have hb := hT.back (U ++ z)
      rw [manyF_step (caseS_sinks hc w)]
      simp only [List.append_assoc, List.cons_append, List.nil_append]
      have he : isT 0 tEsac (T ++ (1, tSemi2) :: (U ++ z)) = false := by rw [hy]; exact isT_hd (by decide)
      simp only [caseS, he, Bool.false_eq_true, if_false]
      rw [hb]
      simp only [Rs.and, isT_self, if_true, List.tail_cons, v2]
      rw [v1]
      simp
    · rw [hy]
      exact line_op
section
variable {cmd br : Pr Nd} (hc : Eats cmd) (hg : Good cmd)
include hc hg
theorem case_inv (w : List Pt) : ∀ (n : Nat) (ks : List Nd) (s r : Ts) (x : Nd), many (caseS cmd w) n ks s = .ok (x, r) → TkOk s → ∃ l, x = .mk 9 false [] [w] [] [] [] (ks ++ l) ∧ (∀ y ∈ l, ∃ T, ItT cmd y T) ∧ (itL l).length + 80 + W r ≤ W s ∧ TkOk r
  | 0, _, _, _, _, h, _ => by cases h
  | n + 1, ks, s, r, x, h, hs => by
    simp only [many] at h
    obtain ⟨y, h1, h2⟩ := Rs.and_ok h
    unfold caseS at h1
    split at h1
    · rename_i hp
      injection h1 with h1
      subst h1
      injection h2 with h2
      injection h2 with e1 e2
      subst e1 e2
      have hW := W_took hp
      simp only [List.length_cons, List.length_nil] at hW
      refine ⟨[], by simp, by simp, ?_, hs.tl⟩
      simp only [itL, List.flatMap_nil, List.length_nil]
      omega
    · obtain ⟨⟨k, s1⟩, h3, h4⟩ := Rs.and_ok h1
      obtain ⟨g1, g2, g3⟩ := item_good hc hg hs h3
      dsimp only at h4
      have go : ∀ s2 : Ts, s2 <:+ s1 → W s2 ≤ W s1 → many (caseS cmd w) n (ks ++ [k]) s2 = .ok (x, r) → ∃ l, x = .mk 9 false [] [w] [] [] [] (ks ++ l) ∧ (∀ y ∈ l, ∃ T, ItT cmd y T) ∧ (itL l).length + 80 + W r ≤ W s ∧ TkOk r := by
        intro s2 hs2 hW h
        obtain ⟨l, rfl, k1, k2, k3⟩ := case_inv w n _ _ _ _ h (g3.suf hs2)
        refine ⟨k :: l, by simp, fun y hy => ?_, ?_, k3⟩
        · rcases List.mem_cons.1 hy with rfl | hy
          · exact g1
          · exact k1 y hy
        · simp only [itL, List.flatMap_cons, List.length_append, List.length_cons] at k2 ⊢
          omega
      split at h4
      · injection h4 with h4
        subst h4
        refine go _ ((linesF_suf _).trans (tail_suf s1)) ?_ h2
        have := W_lines s1.tail
        have := W_tail s1
        omega
      · split at h4
        · injection h4 with h4
          subst h4
          exact go _ (linesF_suf s1) (W_lines s1) h2
        · cases h4
theorem cases_good {s r : Ts} {x : Nd} (hs : TkOk s) (h : casesF cmd s = .ok (x, r)) : CoGood cmd br x ((0, tCase) :: s) r := by
  have kCase := Lx.key (u := tCase) (by decide) (by decide) (by decide)
  have kIn := Lx.key (u := tIn) (by decide) (by decide) (by decide)
  obtain ⟨⟨w, r1⟩, h1, h2⟩ := Rs.and_ok h
  obtain ⟨a1, a2, a3⟩ := parts_got hs h1
  dsimp only at h2
  split at h2
  · rename_i hp
    obtain ⟨l, rfl, k1, k2, k3⟩ := case_inv hc hg w _ _ _ _ _ h2 a3.lines.tl.lines
    obtain ⟨T, l1, l2, l3⟩ := case_fwd hc w l [] k1
    have e : prN (.mk 9 false [] [w] [] [] [] ([] ++ l)) = [99, 97, 115, 101] ++ 32 :: (prL w ++ 32 :: ([105, 110] ++ (itL l ++ 32 :: tEsac))) := by
      have hj : 32 :: joinT [32] (l.map prN ++ [tEsac]) = itL l ++ 32 :: tEsac := by
        rw [join_flat _ (by simp)]
        simp [itL, List.flatMap_map]
      rw [List.nil_append, prN_c0 (by decide), ← hj]
      simp [compT]
    have lx := kCase.cat (a1.lw.lx.cat (kIn.app l1 l2))
    have hW1 := W_lines r1
    have hW2 := W_took hp
    have hW3 := W_lines (linesF r1).tail
    refine ⟨⟨[(0, tCase)] ++ ([(0, prL w)] ++ ([(0, tIn)] ++ T)), rfl, (by decide : (4 : Int) ≤ 9 ∧ (9 : Int) ≤ 9), by rw [e]; exact lx, fun z => ?_, 0, tCase, _, rfl, .inl ⟨rfl, by decide, by decide⟩⟩, ?_, k3⟩
    · obtain ⟨v1, v2⟩ := l3 z
      simp only [List.cons_append, List.nil_append, comp_case]
      unfold casesF
      rw [parts_fwd a1]
      simp only [Rs.and, line_word, isT_self, if_true, List.tail_cons, v2]
      rw [v1]
      rfl
    · rw [e]
      simp only [W, List.length_append, List.length_cons, List.length_nil] at hW2 k2 ⊢
      omega
  · cases h2
theorem comp_good (hb : GoodB br) {s r : Ts} {x : Nd} (hs : TkOk s) (h : compF cmd br s = some (.ok (x, r))) : CoGood cmd br x s r := by
  unfold compF at h
  split at h
  · rename_i hp
    rw [isT_cons hp]
    exact shut_good hc hg hs.tl (Option.some.inj h)
  split at h
  · rename_i hp
    rw [isT_cons hp]
    exact brace_good hc hg hs.tl (Option.some.inj h)
  split at h
  · rename_i hp
    rw [isT_cons hp]
    exact if_good hb hs.tl (Option.some.inj h)
  split at h
  · rename_i hp
    rw [isT_cons hp]
    exact loop_good2 hc hg (.inl rfl) hs.tl (Option.some.inj h)
  split at h
  · rename_i hp
    rw [isT_cons hp]
    exact loop_good2 hc hg (.inr rfl) hs.tl (Option.some.inj h)
  split at h
  · rename_i hp
    rw [isT_cons hp]
    exact each_good hc hg hs.tl (Option.some.inj h)
  split at h
  · rename_i hp
    rw [isT_cons hp]
    exact cases_good hc hg hs.tl (Option.some.inj h)
  · cases h
end
theorem co_cm {cmd br : Pr Nd} {x : Nd} {T : Ts} (h : CoT cmd br x T) {rs : List (Txt × List Pt)} (hr : ∀ y ∈ rs, Rk y) : Cm (commandF cmd br) (.mk x.k x.neg x.nm x.ws x.as rs x.os x.ks) := by
  obtain ⟨l1, l2⟩ := redirs_lx hr
  refine ⟨T ++ rs.flatMap rT, ?_, fun z hz => ?_, h.head.app _⟩
  · have e : prN (.mk x.k x.neg x.nm x.ws x.as rs x.os x.ks) = prN x ++ rs.flatMap fun x => 32 :: prR x := by
      rw [prN_c h.knd]
      have := prN_c (nm := x.nm) (ws := x.ws) (os := x.os) (ks := x.ks) h.knd x.neg x.as []
      rw [← h.rs, Nd.eta, h.rs] at this
      rw [this]
      simp
    rw [e]
    exact h.lex.app l1 l2
  · unfold commandF
    rw [List.append_assoc, h.back]
    simp only [Rs.and, withR]
    rw [redirs_fwd hz.redir rs [] hr]
    simp
theorem rsv_of {cmd br : Pr Nd} {t : Txt} {r : Ts} (h1 : compF cmd br ((0, t) :: r) = none) (h2 : resB ((0, t) :: r) ≠ true) : t ∉ rsv := by
  intro hin
  simp only [rsv, List.mem_cons, List.not_mem_nil, or_false] at hin
  rcases hin with rfl | rfl | rfl | rfl | rfl | rfl | rfl | rfl | rfl | rfl | rfl | rfl | rfl | rfl | rfl
  all_goals first
    | exact h2 rfl
    | (rw [comp_brace] at h1; cases h1)
    | (rw [comp_if] at h1; cases h1)
    | (rw [comp_while] at h1; cases h1)
    | (rw [comp_until] at h1; cases h1)
    | (rw [comp_for] at h1; cases h1)
    | (rw [comp_case] at h1; cases h1)
theorem command_good {cmd br : Pr Nd} (hc : Eats cmd) (hg : Good cmd) (hb : GoodB br) : Good (commandF cmd br) := by
  intro s x r hs h
  unfold commandF at h
  split at h
  · rename_i f hf
    obtain ⟨⟨x0, r0⟩, h1, h2⟩ := Rs.and_ok h
    subst h1
    obtain ⟨⟨T, hT⟩, a2, a3⟩ := comp_good hc hg hb hs hf
    obtain ⟨⟨rs, r1⟩, h3, h4⟩ := Rs.and_ok h2
    injection h4 with h4
    injection h4 with e1 e2
    subst e1 e2
    obtain ⟨m, e0, b1, b2, b3⟩ := redirs_got _ _ _ _ _ h3 a3
    rw [List.nil_append] at e0
    subst e0
    refine ⟨co_cm hT b1, ?_, b3⟩
    have e : (prN (.mk x0.k x0.neg x0.nm x0.ws x0.as rs x0.os x0.ks)).length = (prN x0).length + lenR rs := by
      rw [prN_c hT.knd]
      have := prN_c (nm := x0.nm) (ws := x0.ws) (os := x0.os) (ks := x0.ks) hT.knd x0.neg x0.as []
      rw [← hT.rs, Nd.eta, hT.rs] at this
      rw [this]
      simp only [List.flatMap_nil, List.append_nil, List.length_append, len_flat, lenR]
    dsimp only at b2 ⊢
    omega
  · rename_i hf
    split at h
    · cases h
    · rename_i hres
      split at h
      · rename_i hfb
        match s, hs, h, hf, hres, hfb with
        | (k, t) :: s, hs, h, hf, hres, hfb =>
          simp only [funcB, Bool.and_eq_true, decide_eq_true_eq] at hfb
          obtain ⟨⟨⟨rfl, hnm⟩, hp1⟩, hp2⟩ := hfb
          simp only [defF] at h
          obtain ⟨⟨x1, r1⟩, h1, h2⟩ := Rs.and_ok h
          have hs1 : TkOk (linesF s.tail.tail) := hs.tail.tl.tl.lines
          obtain ⟨⟨T, hT⟩, a2, a3⟩ := hg _ _ _ hs1 h1
          dsimp only at h2
          split at h2
          · rename_i hk
            injection h2 with h2
            injection h2 with e1 e2
            subst e1 e2
            have hrs := rsv_of hf hres
            have e : prN (.mk 11 false t [] [] [] [] [x1]) = t ++ 40 :: 41 :: 32 :: prN x1 := by
              rw [prN_eq]
              show formT 11 false t [] [] [] [] (prNs [x1]) = _
              simp [formT, kidT, prNs_map]
            refine ⟨⟨(0, t) :: (1, tOpen) :: (1, tShut) :: T, by rw [e]; exact Lx.func hnm hT.lex, fun z hz => ?_, 0, t, _, rfl, .inl ⟨rfl, (not_rsv hrs).1, (not_rsv hrs).2.1⟩⟩, ?_, a3⟩
            · obtain ⟨c1, c2⟩ := comp_none (cmd := cmd) (br := br) (k := 0) (t := t) (r := (1, tOpen) :: (1, tShut) :: (T ++ z)) (.inl ⟨rfl, hrs⟩)
              simp only [List.cons_append]
              unfold commandF
              rw [c1, c2]
              have hfb : funcB ((0, t) :: (1, tOpen) :: (1, tShut) :: (T ++ z)) = true := by
                simp only [funcB, hnm, isT_self, List.tail_cons, Bool.and_true]
                rfl
              simp only [Bool.false_eq_true, if_false, hfb, if_true, defF, List.tail_cons, (hT.head.app z).line]
              rw [hT.back z hz]
              simp only [Rs.and]
              rw [if_pos hk]
            · rw [e]
              have w1 := W_took hp1
              have w2 := W_took hp2
              have w3 := W_lines s.tail.tail
              simp only [W, List.length_append, List.length_cons, List.length_nil] at w1 w2 ⊢
              omega
          · cases h2
      · obtain ⟨b, rfl, h1, h2⟩ := simple_got hs (fun t r e => by subst e; exact rsv_of hf hres) h
        obtain ⟨g1, g2⟩ := simple_cm (cmd := cmd) (br := br) h1 h2
        exact ⟨⟨_, g1⟩, g2, h1.tk⟩
theorem levels_good : ∀ L, Good (lvS L).1 ∧ GoodB (lvS L).2 ∧ ∀ s x r, TkOk s → (lvS L).2 s = .ok (x, r) → Cm (lvS L).1 x
  | 0 => ⟨fun s x r _ h => (by cases h), fun s x r _ h => (by cases h), fun s x r _ h => (by cases h)⟩
  | L + 1 => by
    obtain ⟨h1, h2, h3⟩ := levels_good L
    have hc := (lvS_eats L).1
    have hb := branch_good hc h1 h2 h3
    refine ⟨command_good hc h1 hb, hb, fun s x r hs h => ?_⟩
    obtain ⟨⟨T, hT⟩, _, _⟩ := hb s x r hs h
    have hco := br_co (cmd := (lvS L).1) hT
    have := co_cm hco (rs := []) (by simp)
    rw [← hco.rs, Nd.eta] at this
    exact this
theorem script_back {s : Ts} {x : Nd} (hs : TkOk s) (h : scriptF s = .ok x) : ∃ T, toks (prN x) = some T ∧ scriptF T = .ok x ∧ (prN x).length ≤ W s := by
  obtain ⟨⟨y, r⟩, h1, h2⟩ := Rs.and_ok h
  dsimp only at h2
  split at h2
  · rename_i hr
    injection h2 with h2
    subst h2
    obtain ⟨⟨T, t1, t2⟩, t3, _, _⟩ := list_good (lvS_eats 30).1 (levels_good 30).1 hs h1
    refine ⟨T, ?_, ?_, by omega⟩
    · have := t1 [] (.inl rfl)
      rw [List.append_nil, toks_nil] at this
      rw [this]
      simp
    · have := t2 [] (.inl rfl)
      rw [List.append_nil] at this
      unfold scriptF
      rw [this]
      rfl
  · cases h2
def Small (B : Nat) (l : List Tok) : Prop := ∀ x ∈ l, x.1 = 0 → x.2.length ≤ B
theorem Small.mono {B C : Nat} {l : List Tok} (h : Small B l) (hb : B ≤ C) : Small C l := fun x hx hk => Nat.le_trans (h x hx hk) hb
structure PB (n B : Nat) (z : Txt) : Prop where
  q : ∀ y, wordD z = some y → z.length ≤ y.length + n ∧ ∀ l, toks y = some l → Small B l
  r : ∀ l, toks z = some l → Small B l
  e : ∀ l, toks (lineEnd z) = some l → Small B l
theorem PB.weak {n B m C : Nat} {z : Txt} (h : PB n B z) (h1 : n ≤ m) (h2 : B ≤ C) : PB m C z :=
  ⟨fun y hy => ⟨Nat.le_trans (h.q y hy).1 (by omega), fun l hl => ((h.q y hy).2 l hl).mono h2⟩, fun l hl => (h.r l hl).mono h2, fun l hl => (h.e l hl).mono h2⟩
theorem PB.nil : PB 0 0 [] := by
  refine ⟨fun y hy => ?_, fun l hl => ?_, fun l hl => ?_⟩
  · rw [wordD_ends rfl] at hy
    obtain rfl := Option.some.inj hy
    exact ⟨Nat.zero_le _, fun l hl => by rw [toks_nil] at hl; obtain rfl := Option.some.inj hl; exact fun x hx => by cases hx⟩
  · rw [toks_nil] at hl; obtain rfl := Option.some.inj hl; exact fun x hx => by cases hx
  · rw [show lineEnd [] = [] from rfl, toks_nil] at hl; obtain rfl := Option.some.inj hl; exact fun x hx => by cases hx
theorem small_op {B k : Nat} {t : Txt} {z : Txt} (hk : k ≠ 0) (hz : ∀ l, toks z = some l → Small B l) : ∀ l, ((toks z).map ([(k, t)] ++ ·)) = some l → Small B l := by
  intro l hl
  obtain ⟨m, hm, rfl⟩ := Option.map_eq_some_iff.1 hl
  intro x hx h0
  rcases List.mem_append.1 hx with hx | hx
  · rw [List.mem_singleton.1 hx] at h0
    exact absurd h0 hk
  · exact hz m hm x hx h0
theorem PB.ends {n B : Nat} {c : UInt8} {z : Txt} (hc : isEnd c = true) (hr : ∀ l, toks (c :: z) = some l → Small B l) (he : ∀ l, toks (lineEnd (c :: z)) = some l → Small B l) : PB n B (c :: z) := by
  refine ⟨fun y hy => ?_, hr, he⟩
  rw [wordD_ends (s := c :: z) hc] at hy
  obtain rfl := Option.some.inj hy
  exact ⟨Nat.le_add_right _ _, hr⟩
theorem PB.blank {n B : Nat} {z : Txt} (h : PB n B z) : PB 0 B (32 :: z) := .ends rfl (by rw [toks_sp]; exact h.r) h.e
theorem PB.line {n B : Nat} {z : Txt} (h : PB n B z) : PB 0 B (10 :: z) := by
  have : ∀ l, toks (10 :: z) = some l → Small B l := by
    rw [toks_one (l := [(2, [10])]) (t := z) rfl]
    exact small_op (by decide) h.r
  exact .ends rfl this this
theorem PB.op {n B : Nat} {c : UInt8} {z y : Txt} {o : Txt} (h : PB n B y) (hc : isEnd c = true) (ho : tokOne c z = some ([(1, o)], y)) (hl : lineEnd (c :: z) = lineEnd y) : PB 0 B (c :: z) :=
  .ends hc (by rw [toks_one ho]; exact small_op (by decide) h.r) (by rw [hl]; exact h.e)
theorem PB.op40 {n B : Nat} {z : Txt} (h : PB n B z) : PB 0 B (40 :: z) := h.op (o := [40]) rfl (by rw [tokOne_op (by decide) rfl]; cases z with | nil => rfl | cons b z => simp [opLen]) rfl
theorem PB.op41 {n B : Nat} {z : Txt} (h : PB n B z) : PB 0 B (41 :: z) := h.op (o := [41]) rfl (by rw [tokOne_op (by decide) rfl]; cases z with | nil => rfl | cons b z => simp [opLen]) rfl
theorem PB.op60 {n B : Nat} {z : Txt} (h : PB n B z) : PB 0 B (60 :: z) := h.op (o := [60]) rfl (by rw [tokOne_op (by decide) rfl]; cases z with | nil => rfl | cons b z => simp [opLen]) rfl
theorem PB.op59 {n B : Nat} {z : Txt} (h : PB n B (32 :: z)) : PB 0 B (59 :: 32 :: z) := h.op (o := [59]) rfl rfl rfl
theorem PB.op124 {n B : Nat} {z : Txt} (h : PB n B (32 :: z)) : PB 0 B (124 :: 32 :: z) := h.op (o := [124]) rfl rfl rfl
theorem PB.op62 {n B : Nat} {z : Txt} (h : PB n B (32 :: z)) : PB 0 B (62 :: 32 :: z) := h.op (o := [62]) rfl rfl rfl
theorem PB.two59 {n B : Nat} {z : Txt} (h : PB n B z) : PB 0 B (59 :: 59 :: z) := h.op (o := [59, 59]) rfl rfl rfl
theorem PB.two124 {n B : Nat} {z : Txt} (h : PB n B z) : PB 0 B (124 :: 124 :: z) := h.op (o := [124, 124]) rfl rfl rfl
theorem PB.two62 {n B : Nat} {z : Txt} (h : PB n B z) : PB 0 B (62 :: 62 :: z) := h.op (o := [62, 62]) rfl rfl rfl
theorem PB.two38 {n B : Nat} {z : Txt} (h : PB n B z) : PB 0 B (38 :: 38 :: z) := h.op (o := [38, 38]) rfl rfl rfl
theorem PB.unit {n B : Nat} {z g : Txt} {a : UInt8} (h : PB n B z) (hu : wordD (a :: (g ++ z)) = wordD z) (ha : isEnd a = false) (h35 : a ≠ 35) (hl : lineEnd (a :: (g ++ z)) = lineEnd z) : PB (n + (g.length + 1)) (max B (n + (g.length + 1))) (a :: (g ++ z)) := by
  have hq : ∀ y, wordD (a :: (g ++ z)) = some y → (a :: (g ++ z)).length ≤ y.length + (n + (g.length + 1)) ∧ ∀ l, toks y = some l → Small B l := by
    intro y hy
    rw [hu] at hy
    obtain ⟨h1, h2⟩ := h.q y hy
    refine ⟨?_, h2⟩
    simp only [List.length_cons, List.length_append]
    omega
  refine ⟨fun y hy => ⟨(hq y hy).1, fun l hl => ((hq y hy).2 l hl).mono (Nat.le_max_left _ _)⟩, fun l hl => ?_, fun l hl2 => ?_⟩
  · rw [toks_cons] at hl
    obtain ⟨⟨l1, t⟩, hone, hl⟩ := Option.bind_eq_some_iff.1 hl
    obtain ⟨l2, h2, rfl⟩ := Option.map_eq_some_iff.1 hl
    dsimp only at h2
    rcases tokOne_view hone with ⟨h1, _, _⟩ | ⟨h1, _, _⟩ | ⟨h1, _, _⟩ | ⟨_, he, _, _⟩ | ⟨_, he, p, hp0, hp, hw, rfl⟩
    · rcases h1 with rfl | rfl <;> exact absurd ha (by decide)
    · exact absurd h1 h35
    · subst h1; exact absurd ha (by decide)
    · rw [ha] at he; cases he
    · rw [← hp] at hw
      obtain ⟨k1, k2⟩ := hq t hw
      have hlen := congrArg List.length hp
      rw [List.length_append] at hlen
      intro x hx h0
      rcases List.mem_append.1 hx with hx | hx
      · rw [List.mem_singleton.1 hx]
        have : p.length ≤ n + (g.length + 1) := by omega
        exact Nat.le_trans this (Nat.le_max_right _ _)
      · exact Nat.le_trans (k2 l2 h2 x hx h0) (Nat.le_max_left _ _)
  · rw [hl] at hl2
    exact (h.e l hl2).mono (Nat.le_max_left _ _)
def byB (c : UInt8) : Bool := plB c && decide (c ≠ 35 ∧ c ≠ 10)
theorem PB.byte {n B : Nat} {z : Txt} {c : UInt8} (hc : byB c = true) (h : PB n B z) : PB (n + 1) (max B (n + 1)) (c :: z) := by
  unfold byB at hc
  rw [Bool.and_eq_true] at hc
  obtain ⟨h1, h2⟩ := hc
  have h2 := of_decide_eq_true h2
  have hw := word_plain [c] z (by rw [List.all_cons, h1]; rfl)
  unfold plB at h1
  rw [Bool.and_eq_true, Bool.not_eq_true'] at h1
  exact PB.unit (g := []) h hw h1.1 h2.1 (by show lineEnd (c :: z) = _; simp only [lineEnd]; rw [if_neg h2.2])
theorem PB.hash {n B : Nat} {z : Txt} (h : PB n B z) : PB (n + 1) B (35 :: z) := by
  have hw : wordD (35 :: z) = wordD z := word_plain [35] z (by decide)
  refine ⟨fun y hy => ?_, ?_, h.e⟩
  · rw [hw] at hy
    obtain ⟨h1, h2⟩ := h.q y hy
    exact ⟨by simp only [List.length_cons]; omega, h2⟩
  · rw [toks_one (l := []) (t := lineEnd z) rfl, map_nil]
    exact h.e
theorem PB.dollar {n B : Nat} {z : Txt} {c : UInt8} (hc : c ≠ 40 ∧ c ≠ 123) (h : PB n B (c :: z)) : PB (n + 1) (max B (n + 1)) (36 :: c :: z) :=
  PB.unit (g := []) h (word_byte (by decide) (by decide) (by decide) (by decide) fun _ a y e => by injection e with e _; rw [← e]; exact hc) rfl (by decide) rfl
theorem PB.quote {n B : Nat} {z : Txt} (h : PB n B z) : PB (n + 5) (max B (n + 5)) (39 :: 98 :: 32 :: 99 :: 39 :: z) :=
  PB.unit (g := [98, 32, 99, 39]) h (wordD_unit rfl (unit_quote (y := [98, 32, 99]) (by decide))) rfl (by decide) rfl
theorem unit_par (z : Txt) : unitD 30 (36 :: 123 :: 120 :: 58 :: 45 :: 100 :: 125 :: z) = some z := by
  have h1 : unitD 30 (36 :: 123 :: 120 :: 58 :: 45 :: 100 :: 125 :: z) = untilD 29 125 ([120, 58, 45, 100] ++ 125 :: z) := rfl
  have hp : ∀ c ∈ ([120, 58, 45, 100] : Txt), Pl c := by
    intro c hc
    simp only [List.mem_cons, List.not_mem_nil, or_false] at hc
    unfold Pl
    rcases hc with rfl | rfl | rfl | rfl <;> decide
  rw [h1, plain_skip (by decide) _ _ hp, untilD_cons]
  rfl
theorem PB.par {n B : Nat} {z : Txt} (h : PB n B z) : PB (n + 7) (max B (n + 7)) (36 :: 123 :: 120 :: 58 :: 45 :: 100 :: 125 :: z) :=
  PB.unit (g := [123, 120, 58, 45, 100, 125]) h (wordD_unit rfl (unit_par z)) rfl (by decide) rfl
def phU : List Txt := [[105, 102, 32, 97, 59, 32, 116, 104, 101, 110, 32, 98, 59, 32, 102, 105], [59, 32], [10], [119, 104, 105, 108, 101, 32, 97, 59, 32, 100, 111, 32, 98, 59, 32, 100, 111, 110, 101], [102, 111, 114, 32, 120, 32, 105, 110, 32, 97, 32, 98, 59, 32, 100, 111, 32, 99, 59, 32, 100, 111, 110, 101], [99, 97, 115, 101, 32, 36, 120, 32, 105, 110, 32, 40, 97, 32, 124, 32, 98, 41, 32, 99, 59, 59, 32, 100, 41, 32, 101, 115, 97, 99], [40, 32, 97, 59, 32, 98, 32, 41], [123, 32, 97, 59, 32, 125], [32, 38, 38, 32], [32, 124, 32], [33, 32], [102, 40, 41, 32, 123, 32, 97, 59, 32, 125], [120, 61, 36, 121, 32, 97, 32, 62, 32, 111], [32, 62, 32, 111], [105, 102, 32, 97, 59, 32, 116, 104, 101, 110, 32, 98, 59, 32, 101, 108, 105, 102, 32, 99, 59, 32, 116, 104, 101, 110, 32, 100, 59, 32, 101, 108, 115, 101, 32, 101, 59, 32, 102, 105], [117, 110, 116, 105, 108, 32, 97, 59, 32, 100, 111, 32, 98, 59, 32, 100, 111, 110, 101, 32, 62, 62, 32, 111], [102, 111, 114, 32, 121, 10, 100, 111, 32, 97, 59, 32, 100, 111, 110, 101], [32, 124, 124, 32], [101, 99, 104, 111, 32, 39, 98, 32, 99, 39, 32, 36, 123, 120, 58, 45, 100, 125], [62, 32, 111, 32, 105, 102]]
def sgU : List Txt := [[97, 32], [105, 102, 32], [116, 104, 101, 110, 32], [101, 108, 115, 101, 32], [102, 105, 32], [59, 32], [10], [119, 104, 105, 108, 101, 32], [100, 111, 32], [100, 111, 110, 101, 32], [102, 111, 114, 32, 120, 32], [105, 110, 32], [99, 97, 115, 101, 32, 36, 121, 32], [101, 115, 97, 99, 32], [112, 41, 32], [59, 59, 32], [40, 32], [41, 32], [123, 32], [125, 32], [38, 38, 32], [124, 32], [33, 32], [102, 40, 41, 32], [120, 61, 49, 32], [62, 32, 111, 32], [60, 32, 105, 32], [101, 108, 105, 102, 32], [117, 110, 116, 105, 108, 32], [39, 98, 32, 99, 39, 32], [35, 32, 100], [124, 124, 32]]
theorem ph_piece {z : Txt} (hz : PB 8 40 z) : ∀ g ∈ phU, PB 8 40 (g ++ z) := by
  intro g hg
  simp only [phU, List.mem_cons, List.not_mem_nil, or_false] at hg
  rcases hg with rfl | rfl | rfl | rfl | rfl | rfl | rfl | rfl | rfl | rfl | rfl | rfl | rfl | rfl | rfl | rfl | rfl | rfl | rfl | rfl
  all_goals
    simp only [List.cons_append, List.nil_append]
    apply PB.weak
    case h => repeat first
        | exact hz
        | decide
        | apply PB.blank
        | apply PB.line
        | apply PB.op40
        | apply PB.op41
        | apply PB.op60
        | apply PB.two59
        | apply PB.two124
        | apply PB.two62
        | apply PB.two38
        | apply PB.op59
        | apply PB.op124
        | apply PB.op62
        | apply PB.quote
        | apply PB.par
        | apply PB.dollar
        | apply PB.hash
        | apply PB.byte
    all_goals decide
theorem sg_piece {z : Txt} (hz : PB 8 40 z) : ∀ g ∈ sgU, PB 8 40 (g ++ z) := by
  intro g hg
  simp only [sgU, List.mem_cons, List.not_mem_nil, or_false] at hg
  rcases hg with rfl | rfl | rfl | rfl | rfl | rfl | rfl | rfl | rfl | rfl | rfl | rfl | rfl | rfl | rfl | rfl | rfl | rfl | rfl | rfl | rfl | rfl | rfl | rfl | rfl | rfl | rfl | rfl | rfl | rfl | rfl | rfl
  all_goals
    simp only [List.cons_append, List.nil_append]
    apply PB.weak
    case h => repeat first
        | exact hz
        | decide
        | apply PB.blank
        | apply PB.line
        | apply PB.op40
        | apply PB.op41
        | apply PB.op60
        | apply PB.two59
        | apply PB.two124
        | apply PB.two62
        | apply PB.two38
        | apply PB.op59
        | apply PB.op124
        | apply PB.op62
        | apply PB.quote
        | apply PB.par
        | apply PB.dollar
        | apply PB.hash
        | apply PB.byte
    all_goals decide
theorem toks_W : ∀ (n : Nat) (s : Txt), s.length ≤ n → ∀ l, toks s = some l → W l ≤ 35 * s.length
  | _, [], _, l, h => by
    rw [toks_nil] at h
    obtain rfl := Option.some.inj h
    exact Nat.le_refl _
  | 0, a :: r, hn, _, _ => by simp only [List.length_cons] at hn; omega
  | n + 1, a :: r, hn, l, h => by
    rw [toks_cons] at h
    obtain ⟨⟨l1, t⟩, h1, h⟩ := Option.bind_eq_some_iff.1 h
    obtain ⟨m, h2, rfl⟩ := Option.map_eq_some_iff.1 h
    dsimp only at h2
    have hlen := tokOne_length h1
    simp only [List.length_cons] at hn ⊢
    have i1 := toks_W n t (by omega) m h2
    rcases tokOne_view h1 with ⟨_, rfl, rfl⟩ | ⟨_, rfl, rfl⟩ | ⟨_, rfl, rfl⟩ | ⟨_, _, rfl, rfl⟩ | ⟨_, _, p, hp, hpt, _, rfl⟩
    · simp only [List.nil_append]; omega
    · simp only [List.nil_append]; omega
    · simp only [List.cons_append, List.nil_append, W, List.length_cons, List.length_nil]; omega
    · have ho := opLen_le (a := a) (r := r)
      simp only [List.length_cons, List.length_drop] at ho i1
      simp only [List.cons_append, List.nil_append, W, List.length_take, List.length_cons]
      omega
    · have hl := congrArg List.length hpt
      have h0 : 0 < p.length := List.length_pos_iff.2 hp
      simp only [List.length_cons, List.length_append] at hl
      simp only [List.cons_append, List.nil_append, W]
      omega
theorem toks_words : ∀ (n : Nat) (s : Txt), s.length ≤ n → ∀ l, toks s = some l → ∀ x ∈ l, x.1 = 0 → x.2 ≠ [] ∧ wordD x.2 = some [] ∧ x.2.head? ≠ some 35
  | _, [], _, l, h => by
    rw [toks_nil] at h
    obtain rfl := Option.some.inj h
    exact fun x hx => by cases hx
  | 0, a :: r, hn, _, _ => by simp only [List.length_cons] at hn; omega
  | n + 1, a :: r, hn, l, h => by
    rw [toks_cons] at h
    obtain ⟨⟨l1, t⟩, h1, h⟩ := Option.bind_eq_some_iff.1 h
    obtain ⟨m, h2, rfl⟩ := Option.map_eq_some_iff.1 h
    dsimp only at h2
    have hlen := tokOne_length h1
    simp only [List.length_cons] at hn
    have i1 := toks_words n t (by omega) m h2
    intro x hx h0
    rcases List.mem_append.1 hx with hx | hx
    · rcases tokOne_view h1 with ⟨_, rfl, rfl⟩ | ⟨_, rfl, rfl⟩ | ⟨_, rfl, rfl⟩ | ⟨_, _, rfl, rfl⟩ | ⟨hn1, _, p, hp, hpt, hw, rfl⟩
      · cases hx
      · cases hx
      · rw [List.mem_singleton.1 hx] at h0; exact absurd h0 (by decide)
      · rw [List.mem_singleton.1 hx] at h0; exact absurd (show 1 = 0 from h0) (by decide)
      · rw [List.mem_singleton.1 hx]
        refine ⟨hp, ?_, ?_⟩
        · have := word_loc p.length p (Nat.le_refl _) t [] (fun c r e _ => by cases e) rfl hw
          rw [List.append_nil] at this
          exact this
        · obtain ⟨b, y, rfl⟩ := List.exists_cons_of_ne_nil hp
          injection hpt with e _
          intro hh
          exact hn1.2.1 (e.trans (Option.some.inj hh))
    · exact i1 x hx h0
theorem parse_back {s : Txt} {x : Nd} (h : parseR s = (x, 0)) (hs : s.length ≤ 560) (hsm : ∀ l, toks s = some l → Small 40 l) : parseR (prN x) = (x, 0) := by
  unfold parseR at h
  split at h
  · rename_i he
    have hsc : scriptF (tokRes s).1 = .ok x := by
      cases hf : scriptF (tokRes s).1 with
      | ok y =>
        rw [hf] at h
        injection h with h _
        rw [h]
      | bad k =>
        rw [hf] at h
        injection h with _ h
        obtain rfl : k = 0 := by omega
        exact absurd hf (scriptF_nz _)
    have htok : ∃ l, toks s = some l ∧ (tokRes s).1 = l := by
      unfold tokRes at he ⊢
      rw [if_neg (by omega)] at he ⊢
      cases ht : toks s with
      | none => rw [ht] at he; cases he
      | some l => exact ⟨l, rfl, rfl⟩
    obtain ⟨l, hl, e⟩ := htok
    rw [e] at hsc
    have hok : TkOk l := fun y hy h0 => by
      obtain ⟨g1, g2, g3⟩ := toks_words _ s (Nat.le_refl _) l hl y hy h0
      exact ⟨g1, hsm l hl y hy h0, g2, g3⟩
    obtain ⟨T, t1, t2, t3⟩ := script_back hok hsc
    have hW := toks_W _ s (Nat.le_refl _) l hl
    have hres : tokRes (prN x) = (T, 0) := by
      unfold tokRes
      rw [if_neg (by omega), t1]
    unfold parseR
    rw [hres, if_pos rfl]
    dsimp only
    rw [t2]
  · rename_i he
    injection h with _ h
    exact absurd h he
theorem raw_back {s : Txt} {x : Nd} (h : parseR s = (x, 0)) (hs : s.length ≤ 40) : parseR (prN x) = (x, 0) :=
  parse_back h (by omega) fun l hl y hy _ => Nat.le_trans ((toks_small _ s (Nat.le_refl _) l hl).2 y hy).1 hs
theorem pieces_pb {sg : List Txt} (hsg : ∀ z, PB 8 40 z → ∀ g ∈ sg, PB 8 40 (g ++ z)) (h0 : 0 < sg.length) : ∀ l : List Nat, PB 8 40 (l.flatMap fun v => sg.getD (v % sg.length) [])
  | [] => PB.nil.weak (by decide) (by decide)
  | v :: l => by
    rw [List.flatMap_cons]
    refine hsg _ (pieces_pb hsg h0 l) _ ?_
    have hv := Nat.mod_lt v h0
    rw [List.getD_eq_getElem?_getD, List.getElem?_eq_getElem hv, Option.getD_some]
    exact List.getElem_mem hv
theorem pieces_len {sg : List Txt} (h : ∀ g ∈ sg, g.length ≤ 40) : ∀ l : List Nat, (l.flatMap fun v => sg.getD (v % sg.length) []).length ≤ 40 * l.length
  | [] => Nat.le_refl _
  | v :: l => by
    have ih := pieces_len h l
    have hg : (sg.getD (v % sg.length) []).length ≤ 40 := by
      rw [List.getD_eq_getElem?_getD]
      cases hx : sg[v % sg.length]? with
      | none => exact Nat.zero_le _
      | some x => exact h x (List.mem_of_getElem? hx)
    rw [List.flatMap_cons, List.length_append, List.length_cons]
    omega
theorem pieces_back {sg : List Txt} (hsg : ∀ z, PB 8 40 z → ∀ g ∈ sg, PB 8 40 (g ++ z)) (h0 : 0 < sg.length) (hl : ∀ g ∈ sg, g.length ≤ 40) {vs : List Nat} (hv : vs.length ≤ 14) {x : Nd} (h : parseR (vs.flatMap fun v => sg.getD (v % sg.length) []) = (x, 0)) : parseR (prN x) = (x, 0) :=
  parse_back h (by have := pieces_len hl vs; omega) (pieces_pb hsg h0 vs).r
theorem ph_back {vs : List Nat} (hv : vs.length ≤ 14) {x : Nd} (h : parseR (vs.flatMap fun v => phU.getD (v % phU.length) []) = (x, 0)) : parseR (prN x) = (x, 0) :=
  pieces_back (fun _ hz => ph_piece hz) (by decide) (by decide) hv h
theorem sg_back {vs : List Nat} (hv : vs.length ≤ 14) {x : Nd} (h : parseR (vs.flatMap fun v => sgU.getD (v % sgU.length) []) = (x, 0)) : parseR (prN x) = (x, 0) :=
  pieces_back (fun _ hz => sg_piece hz) (by decide) (by decide) hv h
end Go.Proofs.YthommfjiaalecaaDoor
namespace Go.Proofs.YthommfjiaalecaaDoor
open Go.RowKit Vc
variable {w : World}
theorem toks_tw : ∀ (n : Nat) (s : Txt), s.length ≤ n → ∀ l, toks s = some l → tw l ≤ 40 * s.length
  | _, [], _, l, h => by
    rw [toks_nil] at h
    obtain rfl := Option.some.inj h
    exact Nat.le_refl _
  | 0, a :: r, hn, _, _ => by simp only [List.length_cons] at hn; omega
  | n + 1, a :: r, hn, l, h => by
    rw [toks_cons] at h
    cases h1 : tokOne a r with
    | none => rw [h1] at h; cases h
    | some y =>
      obtain ⟨l1, t⟩ := y
      rw [h1] at h
      simp only [Option.bind] at h
      cases h2 : toks t with
      | none => rw [h2] at h; cases h
      | some m =>
        rw [h2] at h
        obtain rfl := Option.some.inj h
        have hlen := tokOne_length h1
        simp only [List.length_cons] at hn ⊢
        have i1 := toks_tw n t (by omega) m h2
        rcases tokOne_view h1 with ⟨_, rfl, rfl⟩ | ⟨_, rfl, rfl⟩ | ⟨_, rfl, rfl⟩ | ⟨_, _, rfl, rfl⟩ | ⟨_, _, p, hp, hpt, _, rfl⟩
        · simp only [List.nil_append]; omega
        · simp only [List.nil_append]; omega
        · simp only [List.cons_append, List.nil_append, tw, List.length_cons, List.length_nil]; omega
        · have ho := opLen_le (a := a) (r := r)
          simp only [List.length_cons, List.length_drop] at ho i1
          simp only [List.cons_append, List.nil_append, tw, List.length_take, List.length_cons]
          omega
        · have hl := congrArg List.length hpt
          have h0 : 0 < p.length := List.length_pos_iff.2 hp
          simp only [List.length_cons, List.length_append] at hl
          simp only [List.cons_append, List.nil_append, tw]
          omega
theorem tokRes_tw (s : Txt) : tw (tokRes s).1 ≤ 800000 := by
  unfold tokRes
  split
  · exact Nat.zero_le _
  · split
    · rename_i h20 _ l hl
      have := toks_tw _ s (Nat.le_refl _) l hl
      show tw l ≤ _
      omega
    · exact Nat.zero_le _
theorem parseR_wt (s : Txt) : (parseR s).1.wt ≤ 1000000 := by
  have h := tokRes_tw s
  have h0 : nd0.wt ≤ 1000000 := by decide
  unfold parseR
  split
  · split
    · rename_i x hx
      have := scriptF_wt hx
      show x.wt ≤ _
      omega
    · exact h0
  · exact h0
def GotN (w : World) (x : Nd) (r : Value → Value) (e : Ending) (w' : World) : Prop := ∃ pw cw pa ca pr cr po co pk ck, e = .returned (r (.agg ⟨ncell x (.slice pw x.ws.length cw) (.slice pa x.as.length ca) (.slice pr x.rs.length cr) (.slice po x.os.length co) (.slice pk x.ks.length ck)⟩)) ∧
  NdE w' (fun k => w.heap.size ≤ k ∧ k < w'.heap.size) x (ncell x (.slice pw x.ws.length cw) (.slice pa x.as.length ca) (.slice pr x.rs.length cr) (.slice po x.os.length co) (.slice pk x.ks.length ck)) ∧ Still w w'
def ph09 : List Txt := [[105, 102, 32, 97, 59, 32, 116, 104, 101, 110, 32, 98, 59, 32, 102, 105], [59, 32], [10], [119, 104, 105, 108, 101, 32, 97, 59, 32, 100, 111, 32, 98, 59, 32, 100, 111, 110, 101], [102, 111, 114, 32, 120, 32, 105, 110, 32, 97, 32, 98, 59, 32, 100, 111, 32, 99, 59, 32, 100, 111, 110, 101], [99, 97, 115, 101, 32, 36, 120, 32, 105, 110, 32, 40, 97, 32, 124, 32, 98, 41, 32, 99, 59, 59, 32, 100, 41, 32, 101, 115, 97, 99], [40, 32, 97, 59, 32, 98, 32, 41], [123, 32, 97, 59, 32, 125], [32, 38, 38, 32], [32, 124, 32], [33, 32], [102, 40, 41, 32, 123, 32, 97, 59, 32, 125], [120, 61, 36, 121, 32, 97, 32, 62, 32, 111], [32, 62, 32, 111], [105, 102, 32, 97, 59, 32, 116, 104, 101, 110, 32, 98, 59, 32, 101, 108, 105, 102, 32, 99, 59, 32, 116, 104, 101, 110, 32, 100, 59, 32, 101, 108, 115, 101, 32, 101, 59, 32, 102, 105], [117, 110, 116, 105, 108, 32, 97, 59, 32, 100, 111, 32, 98, 59, 32, 100, 111, 110, 101, 32, 62, 62, 32, 111], [102, 111, 114, 32, 121, 10, 100, 111, 32, 97, 59, 32, 100, 111, 110, 101], [32, 124, 124, 32], [101, 99, 104, 111, 32, 39, 98, 32, 99, 39, 32, 36, 123, 120, 58, 45, 100, 125], [62, 32, 111, 32, 105, 102]]
theorem Phrases_spec : Calls Tryd.prog fn_law09_Phrases #[] w (fun e w' => ∃ q, e = .returned (.slice q ph09.length 20) ∧ StrsAt w' q ph09.length ph09 ∧ Still w w') := by
  refine law09_Phrases_calls _ _ ?_
  exact allocK fun w1 r1 s1 z1 => ⟨_, rfl, StrsAt.row (l := ph09) r1, s1⟩
def sg09 : List Txt := [[97, 32], [105, 102, 32], [116, 104, 101, 110, 32], [101, 108, 115, 101, 32], [102, 105, 32], [59, 32], [10], [119, 104, 105, 108, 101, 32], [100, 111, 32], [100, 111, 110, 101, 32], [102, 111, 114, 32, 120, 32], [105, 110, 32], [99, 97, 115, 101, 32, 36, 121, 32], [101, 115, 97, 99, 32], [112, 41, 32], [59, 59, 32], [40, 32], [41, 32], [123, 32], [125, 32], [38, 38, 32], [124, 32], [33, 32], [102, 40, 41, 32], [120, 61, 49, 32], [62, 32, 111, 32], [60, 32, 105, 32], [101, 108, 105, 102, 32], [117, 110, 116, 105, 108, 32], [39, 98, 32, 99, 39, 32], [35, 32, 100], [124, 124, 32]]
theorem Signs_spec : Calls Tryd.prog fn_law09_Signs #[] w (fun e w' => ∃ q, e = .returned (.slice q sg09.length 32) ∧ StrsAt w' q sg09.length sg09 ∧ Still w w') := by
  refine law09_Signs_calls _ _ ?_
  exact allocK fun w1 r1 s1 z1 => ⟨_, rfl, StrsAt.row (l := sg09) r1, s1⟩
theorem ph_len : ∀ x ∈ ph09, x.length ≤ 40 := by decide
theorem ref_got (s : Txt) : Calls Tryd.prog fn_ref09_Parse #[.string (S s)] w (GotN w (parseR s).1 fun v => .tuple #[v, .int .i64 (parseR s).2]) := by
  refine (ref_parse_spec s).mono ?_
  rintro _ w1 ⟨cs, rfl, hn, s1⟩
  obtain ⟨pw, cw, pa, ca, pr, cr, po, co, pk, ck, rfl, _⟩ := hn.outs
  exact ⟨pw, cw, pa, ca, pr, cr, po, co, pk, ck, rfl, hn, s1⟩
theorem sg_len : ∀ x ∈ sg09, x.length ≤ 40 := by decide
theorem print_aw10 : prN (parseR [97, 61, 49, 32, 98, 62, 99, 38, 38, 100]).1 = [62, 32, 99, 32, 97, 61, 49, 32, 98, 32, 38, 38, 32, 100] := by kernel_rfl
def bang : Nd := .mk 1 true [] [] [] [] [] []
theorem awake10_spec : Calls Tryd.prog fn_law10_awake #[] w (fun e w' => e = .returned (.bool true) ∧ Still w w') := by
  refine law10_awake_calls _ _ ?_
  refine (ref_got [97, 61, 49, 32, 98, 62, 99, 38, 38, 100]).mono ?_
  have hpr := print_aw10
  have hwt := parseR_wt [97, 61, 49, 32, 98, 62, 99, 38, 38, 100]
  generalize parseR [97, 61, 49, 32, 98, 62, 99, 38, 38, 100] = r at *
  rintro _ w1 ⟨pw1, cw1, pa1, ca1, pr1, cr1, po1, co1, pk1, ck1, rfl, n1, s1⟩
  refine .inl ⟨_, _, _, _, _, _, _, _, _, _, _, _, _, _, _, _, _, _, _, rfl, boxK rfl (by simp [Value.oneCell']) fun w3 r3 s3 z3 => ⟨_, _, _, _, _, _, _, _, _, _, _, _, _, _, _, _, _, _, r3.lget rfl, r3.lget rfl, r3.lget rfl, r3.lget rfl, r3.lget rfl, r3.lget rfl, r3.lget rfl, r3.lget rfl, (uprint_spec (n1.still s3) hwt).mono ?_⟩⟩
  rintro _ w4 ⟨rfl, s4⟩
  have s04 := (s1.trans s3).trans s4
  refine .inl ⟨_, rfl, bsel_of (fun _ => ?_) (fun h => by rw [hpr] at h; cases h)⟩
  have hb : NdE w4 (fun _ => True) bang (ncell bang (.slice none 0 0) (.slice none 0 0) (.slice none 0 0) (.slice none 0 0) (.slice none 0 0)) := NdE.of (Enc.At.nil _ _ _ _ _) (Enc.At.nil _ _ _ _ _) (Enc.At.nil _ _ _ _ _) (Enc.At.nil _ _ _ _ _) (Enc.At.nil _ _ _ _ _)
  refine (uprint_spec hb (by decide)).mono ?_
  rintro _ w5 ⟨rfl, s5⟩
  exact .inl ⟨_, rfl, by rw [decide_eq_true (by kernel_rfl : prN bang = [33, 32])], s04.trans s5⟩
theorem ph_again {vs : List Nat} {x : Nd} (h : parseR (piecesR ph09 vs) = (x, 0)) : parseR (prN x) = (x, 0) := ph_back (vs := vs.take 14) (by rw [List.length_take]; omega) h
theorem sg_again {vs : List Nat} {x : Nd} (h : parseR (piecesR sg09 vs) = (x, 0)) : parseR (prN x) = (x, 0) := sg_back (vs := vs.take 14) (by rw [List.length_take]; omega) h
theorem UnparseBack_spec (raw : Txt) {l m : Option Addr} {lL lC mL mC : Nat} {vs us : List Nat} (hl : U8At w l lL vs) (hm : U8At w m mL us) (pick : Int) (hp0 : 0 ≤ pick) (_ : pick < 256) : Calls Tryd.prog fn_law10_UnparseBack #[.string (S raw), .slice l lL lC, .slice m mL mC, .int .u8 pick] w (fun e w' => e = .returned (.bool true) ∧ Still w w') := by
  obtain ⟨n, rfl⟩ := Int.eq_ofNat_of_zero_le hp0
  refine law10_UnparseBack_calls _ _ _ _ _ _ _ _ _ _ ?_
  have e3 : Int.tmod (n : Int) 3 = ((n % 3 : Nat) : Int) := tmod_nat _ 3
  have h3 : n % 3 < 3 := Nat.mod_lt _ (by decide)
  unfold vc_law10_UnparseBack
  rw [e3]
  generalize n % 3 = p at *
  refine awake10_spec.mono ?_
  rintro _ w1 ⟨rfl, s1⟩
  refine .inl ⟨_, rfl, bsel_of (fun h => by cases h) (fun _ => ?_)⟩
  refine ⟨fun s w6 => Still w w6 ∧ ∀ x, (s.length ≤ 40 ∨ p ≠ 0) → parseR s = (x, 0) → parseR (prN x) = (x, 0), ⟨by decide, bsel_of (fun _ => ?_) (fun h1 => bsel_of (fun _ => ?_) (fun h2 => ⟨s1, fun x hx hs => ?_⟩))⟩, ?_⟩
  · refine Phrases_spec.mono ?_
    rintro _ w2 ⟨q, rfl, hq, s2⟩
    refine .inl ⟨_, _, _, rfl, (pieces_spec (sg := ph09) (hl.still (s1.trans s2)) hq (by decide) (by decide) (fun x hx => Nat.le_trans (ph_len x hx) (by decide))).mono ?_⟩
    rintro _ w3 ⟨rfl, rfl⟩
    exact .inl ⟨_, rfl, s1.trans s2, fun x _ hs => ph_again hs⟩
  · refine Signs_spec.mono ?_
    rintro _ w2 ⟨q, rfl, hq, s2⟩
    refine .inl ⟨_, _, _, rfl, (pieces_spec (sg := sg09) (hm.still (s1.trans s2)) hq (by decide) (by decide) (fun x hx => Nat.le_trans (sg_len x hx) (by decide))).mono ?_⟩
    rintro _ w3 ⟨rfl, rfl⟩
    exact .inl ⟨_, rfl, s1.trans s2, fun x _ hs => sg_again hs⟩
  · have h1 := of_decide_eq_false h1
    have h2 := of_decide_eq_false h2
    exact raw_back hs (hx.elim id fun h => by omega)
  · rintro s us1 w6 ⟨s6, hback⟩
    refine ⟨fun w8 => Still w w8 ∧ (s.length ≤ 40 ∨ p ≠ 0), ⟨fun x w7 => Still w w7 ∧ (x = false → s.length ≤ 40 ∨ p ≠ 0), ⟨by decide, bsel_of (fun _ => ⟨s6, fun hx => .inl ?_⟩) (fun h => ⟨s6, fun _ => .inr ?_⟩)⟩, ?_⟩, ?_⟩
    · have := of_decide_eq_false hx
      omega
    · have := of_decide_eq_false h
      omega
    · rintro x us2 w7 ⟨s7, hx⟩
      exact bsel_of (fun _ => ⟨rfl, s7⟩) (fun h => ⟨s7, hx h⟩)
    · rintro us3 w8 ⟨s8, hx⟩
      refine (ref_got s).mono ?_
      have hwt := parseR_wt s
      have hbk := fun (h : (parseR s).2 = 0) => hback (parseR s).1 hx (by rw [← h])
      generalize parseR s = r at *
      obtain ⟨x, er⟩ := r
      rintro _ w9 ⟨pw1, cw1, pa1, ca1, pr1, cr1, po1, co1, pk1, ck1, rfl, n9, s9⟩
      refine .inl ⟨_, _, _, _, _, _, _, _, _, _, _, _, _, _, _, _, _, _, _, rfl, boxK rfl (by simp [Value.oneCell']) fun w11 r11 s11 z11 => bsel_of (fun _ => ⟨rfl, (s8.trans s9).trans s11⟩) (fun he => ?_)⟩
      have he : er = 0 := by simpa using he
      have hbk := hbk he
      refine ⟨_, _, _, _, _, _, _, _, _, _, _, _, _, _, _, _, _, _, r11.lget rfl, r11.lget rfl, r11.lget rfl, r11.lget rfl, r11.lget rfl, r11.lget rfl, r11.lget rfl, r11.lget rfl, (uprint_spec (n9.still s11) hwt).mono ?_⟩
      rintro _ w12 ⟨rfl, s12⟩
      have hg := ref_got (w := w12) (prN x)
      rw [hbk] at hg
      refine .inl ⟨_, rfl, hg.mono ?_⟩
      rintro _ w13 ⟨pw2, cw2, pa2, ca2, pr2, cr2, po2, co2, pk2, ck2, rfl, n13, s13⟩
      refine .inl ⟨_, _, _, _, _, _, _, _, _, _, _, _, _, _, _, _, _, _, _, rfl, boxK rfl (by simp [Value.oneCell']) fun w15 r15 s15 z15 => bsel_of (fun _ => bsel_of (fun _ => ?_) (fun h => by cases h)) (fun h => by cases h)⟩
      have r11 := ((r11.still s12).still s13).still s15
      have n9 := (((n9.still s11).still s12).still s13).still s15
      have n13 := n13.still s15
      have hwt : x.wt ≤ 1000000 := hwt
      refine ⟨_, _, _, _, _, _, _, _, _, _, _, _, _, _, _, _, _, _, r11.lget rfl, r11.lget rfl, r11.lget rfl, r11.lget rfl, r11.lget rfl, r11.lget rfl, r11.lget rfl, r11.lget rfl, _, _, _, _, _, _, _, _, _, _, _, _, _, _, _, _, _, _, r15.lget rfl, r15.lget rfl, r15.lget rfl, r15.lget rfl, r15.lget rfl, r15.lget rfl, r15.lget rfl, r15.lget rfl, (sameN_true n9 n13 (Nat.lt_of_le_of_lt hwt (by decide))).mono ?_⟩
      rintro _ w16 ⟨rfl, s16⟩
      have r15 := r15.still s16
      refine .inl ⟨_, rfl, bsel_of (fun _ => ⟨_, _, _, _, _, _, _, _, _, _, _, _, _, _, _, _, _, _, r15.lget rfl, r15.lget rfl, r15.lget rfl, r15.lget rfl, r15.lget rfl, r15.lget rfl, r15.lget rfl, r15.lget rfl, (uprint_spec (n13.still s16) hwt).mono ?_⟩) (fun h => by cases h)⟩
      rintro _ w17 ⟨rfl, s17⟩
      exact .inl ⟨_, rfl, by rw [decide_eq_true rfl], (((((((s8.trans s9).trans s11).trans s12).trans s13).trans s15).trans s16).trans s17)⟩
theorem UnparseApart_spec {l m : Option Addr} {lL lC mL mC : Nat} {vs us : List Nat} (hl : U8At w l lL vs) (hm : U8At w m mL us) : Calls Tryd.prog fn_law10_UnparseApart #[.slice l lL lC, .slice m mL mC] w (fun e w' => e = .returned (.bool true) ∧ Still w w') := by
  refine law10_UnparseApart_calls _ _ _ _ _ _ _ _ ?_
  refine awake10_spec.mono ?_
  rintro _ w1 ⟨rfl, s1⟩
  refine .inl ⟨_, rfl, bsel_of (fun h => by cases h) (fun _ => ?_)⟩
  refine Phrases_spec.mono ?_
  rintro _ w2 ⟨q, rfl, hq, s2⟩
  refine .inl ⟨_, _, _, rfl, (pieces_spec (sg := ph09) (hl.still (s1.trans s2)) hq (by decide) (by decide) (fun x hx => Nat.le_trans (ph_len x hx) (by decide))).mono ?_⟩
  have bk1 := fun x => ph_again (vs := vs) (x := x)
  generalize piecesR ph09 vs = s at *
  rintro _ w3 ⟨rfl, rfl⟩
  refine .inl ⟨_, rfl, (ref_got s).mono ?_⟩
  rintro _ w4 ⟨pw1, cw1, pa1, ca1, pr1, cr1, po1, co1, pk1, ck1, rfl, n4, s4⟩
  refine .inl ⟨_, _, _, _, _, _, _, _, _, _, _, _, _, _, _, _, _, _, _, rfl, boxK rfl (by simp [Value.oneCell']) fun w6 r6 s6 z6 => Phrases_spec.mono ?_⟩
  rintro _ w7 ⟨q7, rfl, hq7, s7⟩
  have s07 := (((s1.trans s2).trans s4).trans s6).trans s7
  refine .inl ⟨_, _, _, rfl, (pieces_spec (sg := ph09) (hm.still s07) hq7 (by decide) (by decide) (fun x hx => Nat.le_trans (ph_len x hx) (by decide))).mono ?_⟩
  have bk2 := fun x => ph_again (vs := us) (x := x)
  generalize piecesR ph09 us = t at *
  rintro _ w8 ⟨rfl, rfl⟩
  refine .inl ⟨_, rfl, (ref_got t).mono ?_⟩
  rintro _ w9 ⟨pw2, cw2, pa2, ca2, pr2, cr2, po2, co2, pk2, ck2, rfl, n9, s9⟩
  refine .inl ⟨_, _, _, _, _, _, _, _, _, _, _, _, _, _, _, _, _, _, _, rfl, boxK rfl (by simp [Value.oneCell']) fun w11 r11 s11 z11 => ?_⟩
  have sD := drew_still w11
  have s011 := (s07.trans s9).trans s11
  have r6 := ((r6.still s7).still s9).still s11
  have n4 := (((n4.still s6).still s7).still s9).still s11
  have n9 := n9.still s11
  have hw1 := parseR_wt s
  have hw2 := parseR_wt t
  refine ⟨fun wq => Still w11 wq, sD, bsel_of (fun _ => bsel_of (fun _ => ⟨sD, sD, rfl, s011.trans sD⟩) (fun h1 => bsel_of (fun _ => ⟨sD, sD, rfl, s011.trans sD⟩) (fun h2 => ?_))) (fun h => by cases h)⟩
  have h1 : (parseR s).2 = 0 := by simpa using h1
  have h2 : (parseR t).2 = 0 := by simpa using h2
  have b1 := bk1 (parseR s).1 (by rw [← h1])
  have b2 := bk2 (parseR t).1 (by rw [← h2])
  refine ⟨_, _, _, _, _, _, _, _, _, _, _, _, _, _, _, _, _, _, fun wq hq => (r6.still hq).lget rfl, fun wq hq => (r6.still hq).lget rfl, fun wq hq => (r6.still hq).lget rfl, fun wq hq => (r6.still hq).lget rfl, fun wq hq => (r6.still hq).lget rfl, fun wq hq => (r6.still hq).lget rfl, fun wq hq => (r6.still hq).lget rfl, fun wq hq => (r6.still hq).lget rfl, _, _, _, _, _, _, _, _, _, _, _, _, _, _, _, _, _, _, fun wq hq => (r11.still hq).lget rfl, fun wq hq => (r11.still hq).lget rfl, fun wq hq => (r11.still hq).lget rfl, fun wq hq => (r11.still hq).lget rfl, fun wq hq => (r11.still hq).lget rfl, fun wq hq => (r11.still hq).lget rfl, fun wq hq => (r11.still hq).lget rfl, fun wq hq => (r11.still hq).lget rfl, _, _, _, _, _, _, _, _, _, _, _, _, _, _, _, _, _, _, fun wq hq => (r6.still hq).lget rfl, fun wq hq => (r6.still hq).lget rfl, fun wq hq => (r6.still hq).lget rfl, fun wq hq => (r6.still hq).lget rfl, fun wq hq => (r6.still hq).lget rfl, fun wq hq => (r6.still hq).lget rfl, fun wq hq => (r6.still hq).lget rfl, fun wq hq => (r6.still hq).lget rfl, _, _, _, _, _, _, _, _, _, _, _, _, _, _, _, _, _, _, fun wq hq => (r11.still hq).lget rfl, fun wq hq => (r11.still hq).lget rfl, fun wq hq => (r11.still hq).lget rfl, fun wq hq => (r11.still hq).lget rfl, fun wq hq => (r11.still hq).lget rfl, fun wq hq => (r11.still hq).lget rfl, fun wq hq => (r11.still hq).lget rfl, fun wq hq => (r11.still hq).lget rfl, (uprint_spec (n4.still sD) hw1).mono ?_⟩
  generalize (parseR s).1 = x at *
  generalize (parseR t).1 = y at *
  rintro _ w12 ⟨rfl, s12⟩
  have s12 := sD.trans s12
  refine .inl ⟨_, rfl, s12, (uprint_spec (n9.still s12) hw2).mono ?_⟩
  rintro _ w13 ⟨rfl, s13⟩
  have s13 := s12.trans s13
  refine .inl ⟨_, rfl, s13, (SameN_spec (n4.still s13) (n9.still s13) (Nat.lt_of_le_of_lt hw1 (by decide))).mono ?_⟩
  rintro _ w14 ⟨⟨b, rfl, hb⟩, s14⟩
  have hxy : prN x = prN y ↔ x = y := by
    refine ⟨fun e => ?_, fun e => by rw [e]⟩
    rw [e, b2] at b1
    injection b1 with e1 _
    exact e1.symm
  have hbb : decide (prN x = prN y) = b := by
    cases b with
    | true => exact decide_eq_true (hxy.2 (hb.1 rfl))
    | false => exact decide_eq_false fun e => by have := hb.2 (hxy.1 e); cases this
  exact .inl ⟨_, rfl, by rw [decide_eq_true hbb], s011.trans (s13.trans s14)⟩
end Go.Proofs.YthommfjiaalecaaDoor
