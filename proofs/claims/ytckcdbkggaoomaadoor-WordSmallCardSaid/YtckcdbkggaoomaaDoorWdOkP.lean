/- What a parser makes of a text stands as XWdOk says; so its text, parsed, is itself. Plain law; no program is named. Conditions: none. -/
import Derived.Test.YtckcdbkggaoomaaDoorWdOk
namespace Go.Proofs.YtckcdbkggaoomaaDoor

/-! ### Small things -/
theorem tw_twice {p : UInt8 → Bool} (l : Txt) : (l.takeWhile p).takeWhile p = l.takeWhile p := by
  induction l with
  | nil => rfl
  | cons a l ih =>
    by_cases h : p a = true
    · rw [List.takeWhile_cons, if_pos h, List.takeWhile_cons, if_pos h, ih]
    · rw [List.takeWhile_cons, if_neg h]
      rfl
theorem tw_take {p : UInt8 → Bool} (l : Txt) : l.take (l.takeWhile p).length = l.takeWhile p := (List.prefix_iff_eq_take.1 (List.takeWhile_prefix _)).symm
theorem param_name {s : Txt} (h : 0 < nameN s) : NmOk (s.take (nameN s)) := by
  cases s with
  | nil => simp [nameN] at h
  | cons c r =>
    simp only [nameN] at h ⊢
    by_cases hl : isLet c = true
    · rw [if_pos hl, List.take_succ_cons, tw_take]
      refine ⟨by simp, ?_⟩
      have : nameN (c :: r.takeWhile isNam) = (r.takeWhile isNam).length + 1 := by
        simp only [nameN, hl, if_true, tw_twice]
      unfold paramN
      rw [this, if_pos (by omega)]
      rfl
    · rw [if_neg hl] at h
      omega
theorem param_spec1 {c : UInt8} (h1 : isLet c = false) (h2 : isSpec c = true) : NmOk [c] := by
  refine ⟨by simp, ?_⟩
  have e0 : nameN [c] = 0 := by simp only [nameN, h1, Bool.false_eq_true, if_false]
  unfold paramN
  rw [e0, if_neg (by omega)]
  by_cases hd : isDig c = true
  · have : digN [c] = 1 := by simp [digN, hd]
    rw [this]
    rfl
  · have : digN [c] = 0 := by simp [digN, hd]
    rw [this, if_neg (by omega)]
    simp only [specN, h2, if_true]
    rfl
theorem param_take {s : Txt} (h : paramN s ≠ 0) : NmOk (s.take (paramN s)) := by
  by_cases hn : 0 < nameN s
  · have e : paramN s = nameN s := by unfold paramN; rw [if_pos hn]
    rw [e]
    exact param_name hn
  · cases s with
    | nil => exact absurd rfl h
    | cons c r =>
      have hl : isLet c = false := by
        simp only [nameN] at hn
        by_cases hl : isLet c = true
        · rw [if_pos hl] at hn; omega
        · simpa using hl
      by_cases hd : 0 < digN (c :: r)
      · have e : paramN (c :: r) = digN (c :: r) := by unfold paramN; rw [if_neg hn, if_pos hd]
        rw [e]
        have et : (c :: r).take (digN (c :: r)) = (c :: r).takeWhile isDig := tw_take _
        rw [et]
        have hne : (c :: r).takeWhile isDig ≠ [] := List.length_pos_iff.1 hd
        refine ⟨hne, ?_⟩
        have e1 : digN ((c :: r).takeWhile isDig) = ((c :: r).takeWhile isDig).length := by unfold digN; rw [tw_twice]
        have e0 : nameN ((c :: r).takeWhile isDig) = 0 := by
          rw [List.takeWhile_cons]
          split
          · simp only [nameN, hl, Bool.false_eq_true, if_false]
          · rfl
        unfold paramN
        rw [e0, e1, if_neg (by omega), if_pos (List.length_pos_iff.2 hne)]
      · have e : paramN (c :: r) = specN (c :: r) := by unfold paramN; rw [if_neg hn, if_neg hd]
        rw [e] at h ⊢
        simp only [specN] at h ⊢
        by_cases hs : isSpec c = true
        · rw [if_pos hs]
          exact param_spec1 hl hs
        · rw [if_neg hs] at h
          exact absurd rfl h
theorem until_split {d : Nat} {e : UInt8} : ∀ (n : Nat) (s t : Txt), s.length < n → untilD d e s = some t → ∃ y, s = y ++ e :: t
  | 0, s, _, h, _ => by omega
  | n + 1, [], t, _, h => by rw [untilD_nil] at h; cases h
  | n + 1, c :: r, t, hn, h => by
    simp only [List.length_cons] at hn
    rw [untilD_cons] at h
    by_cases hc : c = e
    · rw [if_pos hc] at h
      obtain rfl := Option.some.inj h
      exact ⟨[], by rw [hc]; rfl⟩
    · rw [if_neg hc] at h
      have go : ∀ (u : Txt), u <:+ (c :: r) → u.length < n → untilD d e u = some t → ∃ y, c :: r = y ++ e :: t := by
        intro u hu hl h
        obtain ⟨y, rfl⟩ := until_split n u t hl h
        obtain ⟨z, hz⟩ := hu
        exact ⟨z ++ y, by rw [← hz, List.append_assoc]⟩
      split at h
      · split at h
        · cases h
        · exact go r (List.suffix_cons _ _) (by omega) h
      · split at h
        · split at h
          · cases h
          · obtain ⟨u, h1, h2⟩ := Option.bind_eq_some_iff.1 h
            have := untilD_takes _ _ _ _ h1
            exact go u ((untilD_ends _ _ _ _ h1).trans (List.suffix_cons _ _)) (by omega) h2
        · obtain ⟨u, h1, h2⟩ := Option.bind_eq_some_iff.1 h
          have := unitD_takes _ _ _ h1
          simp only [List.length_cons] at this
          exact go u (unitD_ends _ _ _ h1) (by omega) h2
/-- A unit within braces ends within them. -/
theorem inside {D : Nat} {c : UInt8} {r x : Txt} (h : untilD D 125 (c :: r ++ 125 :: x) = some x) : c ≠ 125 ∧ ∃ u, unitD D (c :: r) = some u ∧ untilD D 125 (u ++ 125 :: x) = some x := by
  rw [List.cons_append, untilD_cons] at h
  by_cases hc : c = 125
  · exfalso
    rw [if_pos hc] at h
    have := congrArg List.length (Option.some.inj h)
    simp only [List.length_append, List.length_cons] at this
    omega
  · rw [if_neg hc, if_neg (fun e => absurd e.1 (by decide)), if_neg (fun e => absurd e.1 (by decide))] at h
    refine ⟨hc, ?_⟩
    obtain ⟨u0, h1, h2⟩ := Option.bind_eq_some_iff.1 h
    have hl := untilD_takes _ _ _ _ h2
    have hs := unitD_ends _ _ _ h1
    have hs2 : 125 :: x <:+ u0 := List.suffix_of_suffix_length_le (l₃ := c :: (r ++ 125 :: x)) ⟨c :: r, rfl⟩ hs (by simp only [List.length_cons]; omega)
    obtain ⟨u, rfl⟩ := hs2
    obtain ⟨z, hz⟩ := hs
    have hz2 : z ++ u = c :: r := by
      have e : (z ++ u) ++ 125 :: x = (c :: r) ++ 125 :: x := by rw [List.append_assoc]; exact hz
      exact List.append_cancel_right e
    refine ⟨u, ?_, h2⟩
    rw [← hz] at h1
    rw [← hz2]
    exact (lev_loc D).1 z (u ++ 125 :: x) u (fun c' r' e _ => ⟨r' ++ 125 :: x, by rw [e]; rfl⟩) h1

/-! ### Adding -/
theorem addP_ne (l : List Pt) (p : Pt) : addP l p ≠ [] := by
  by_cases h : l = []
  · subst h; simp [addP_nil]
  · obtain ⟨m, x, rfl⟩ := snoc_of h
    rw [addP_snoc]
    split <;> simp
theorem fold_ne : ∀ (ps l : List Pt), l ≠ [] → ps.foldl addP l ≠ []
  | [], l, h => h
  | p :: ps, l, _ => fold_ne ps _ (addP_ne l p)
theorem fold_ne' {ps l : List Pt} (h : ps ≠ []) : ps.foldl addP l ≠ [] := by
  cases ps with
  | nil => exact absurd rfl h
  | cons p ps => exact fold_ne ps _ (addP_ne l p)
theorem qdL_ne {w : List Pt} (h : w ≠ []) : qdL [] w ≠ [] := by
  rw [qdL_fold]
  exact fold_ne' (by simpa using h)
theorem qdL_q (w : List Pt) : ∀ p ∈ qdL [] w, p.q = true := by
  rw [qdL_fold]
  refine all_fold (V := fun p => p.q = true) (fun x p hx _ _ => hx) (by simp) fun p hp => ?_
  obtain ⟨x, _, rfl⟩ := List.mem_map.1 hp
  exact x.qd_q
theorem hd_quoted {w : List Pt} (h : ∀ p ∈ w, p.q = true) : hd w = none := by
  cases w with
  | nil => rfl
  | cons p w =>
    exact if_neg (fun (e : p.k = 0 ∧ p.q = false) => by rw [h p (by simp)] at e; exact absurd e.2 (by decide))
theorem hasL_none {l : List Pt} : hasL l = false ↔ ∀ p ∈ l, p.has = false := by
  rw [← Bool.not_eq_true, hasL_mem]
  constructor
  · intro h p hp
    by_cases hh : p.has = true
    · exact absurd ⟨p, hp, hh⟩ h
    · simpa using hh
  · rintro h ⟨p, hp, hh⟩
    rw [h p hp] at hh
    cases hh
theorem Pt.has_eq (p : Pt) : p.has = (decide (p.k = 2) || hasL p.w) := by
  cases p
  simp only [Pt.has, Pt.k, Pt.w]
  rfl
theorem hasL_qd : ∀ (n : Nat) (l : List Pt), SizeOf.sizeOf l < n → hasL l = false → hasL (qdL [] l) = false
  | 0, _, h, _ => by omega
  | n + 1, l, hn, h => by
    rw [hasL_none] at h ⊢
    rw [qdL_fold]
    refine all_fold (V := fun p => p.has = false) (fun x p hx _ _ => ?_) (by simp) fun p hp => ?_
    · rw [Pt.has_eq] at hx ⊢
      exact hx
    · obtain ⟨x, hx, rfl⟩ := List.mem_map.1 hp
      have h1 := h x hx
      have h2 := mem_size hx
      rw [Pt.has_eq, Bool.or_eq_false_iff] at h1
      have h3 := hasL_qd n x.w (by omega) h1.2
      cases x with
      | mk k q t a b c =>
        rw [Pt.has_eq]
        simp only [Pt.qd, Pt.k, Pt.w] at h1 h3 ⊢
        exact Bool.or_eq_false_iff.2 ⟨h1.1, h3⟩
/-- What is quoted stands as well. -/
theorem vp_merge {O : Nat → List Pt → Prop} {b : Bool} {M : Nat} {x p : Pt} (hx : VP O b M x ∧ x.q = true) (hk : x.k = 0) : VP O b M (.mk x.k x.q (x.t ++ p.t) x.n x.o x.w) ∧ (Pt.mk x.k x.q (x.t ++ p.t) x.n x.o x.w).q = true := by
  refine ⟨?_, hx.2⟩
  rcases hx.1 with h | h | h | h
  · exact .inl ⟨h.1, h.2.1, h.2.2.1, h.2.2.2.1, h.2.2.2.2.1, fun e => by rw [show (Pt.mk x.k x.q (x.t ++ p.t) x.n x.o x.w).q = x.q from rfl, hx.2] at e; cases e⟩
  · rw [hk] at h; exact absurd h.1 (by decide)
  · rw [hk] at h; exact absurd h.1 (by decide)
  · rw [hk] at h; exact absurd h.1 (by decide)
theorem qd_ok : ∀ (L : Nat) {b : Bool} {M : Nat} {l : List Pt}, OkL L b M l → OkL L b M (qdL [] l)
  | 0, _, _, _, h => by cases h
  | L + 1, b, M, l, h => by
    refine ⟨qdL_norm (l := l) (acc := []) trivial, ?_⟩
    have key : ∀ p ∈ qdL [] l, VP (OkL L true) b M p ∧ p.q = true := by
      rw [qdL_fold]
      refine all_fold (V := fun p => VP (OkL L true) b M p ∧ p.q = true) (fun x p hx _ hg => vp_merge hx hg.2.1) (by simp) fun p hp => ?_
      obtain ⟨x, hx, rfl⟩ := List.mem_map.1 hp
      refine ⟨?_, x.qd_q⟩
      have hv := h.2 x hx
      cases x with
      | mk k q t n o w =>
        simp only [Pt.qd]
        rcases hv with h | h | h | h
        · obtain ⟨h1, h2, h3, h4, h5, h6⟩ := h
          have h4 : w = [] := h4
          subst h4
          exact .inl ⟨h1, h2, h3, rfl, h5, fun e => (by cases e)⟩
        · obtain ⟨h1, h2, h3, h4, h5⟩ := h
          refine .inr (.inl ⟨h1, h2, h3, h4, ?_⟩)
          rcases h5 with ⟨hw, ho⟩ | ⟨ho, hw, hh, _⟩
          · have hw : w = [] := hw
            subst hw
            exact .inl ⟨rfl, ho⟩
          · have hq := hd_quoted (qdL_q w)
            refine .inr ⟨⟨ho.1, fun _ => ?_, fun _ => ?_, fun e e2 => qdL_ne (ho.2.2.2.1 e e2), ho.2.2.2.2⟩, qd_ok L hw, hasL_qd _ _ (Nat.lt_succ_self _) hh, fun _ => qd_again w⟩
            · show hd (qdL [] w) ≠ some 37
              rw [hq]
              simp
            · show hd (qdL [] w) ≠ some 35
              rw [hq]
              simp
        · obtain ⟨h1, h2, h3, h4, h5⟩ := h
          have h4 : w = [] := h4
          subst h4
          exact .inr (.inr (.inl ⟨h1, h2, h3, rfl, h5⟩))
        · obtain ⟨h1, h2, h3, h4, h5⟩ := h
          have h4 : w = [] := h4
          subst h4
          exact .inr (.inr (.inr ⟨h1, h2, h3, rfl, h5⟩))
    exact fun p hp => (key p hp).1

/-! ### What is parsed -/
def In (b : Bool) (s : Txt) : Prop := b = true → ∃ x, untilD 29 125 (s ++ 125 :: x) = some x
/-- What the parser of words does. -/
def PGood (L : Nat) (P : Txt → Rs (List Pt)) : Prop := ∀ (s : Txt) (l : List Pt) (M : Nat), P s = .ok l → s.length + 4 ≤ 2 * M → M ≤ 30 → In true s → OkL L true M l ∧ (∀ c, hd l = some c → s.head? = some c) ∧ (l = [] → s = [])
theorem op_two (a : UInt8) (z : Txt) (h : a = 37 ∨ a = 35) : opOf (a :: a :: z) = [a, a] := by
  unfold opOf
  rcases h with rfl | rfl <;> simp [opsL, pf]
theorem braces_good {L : Nat} {P : Txt → Rs (List Pt)} (hP : PGood L P) {b q : Bool} {s : Txt} {p : Pt} {M : Nat} (h : bracesF P q s = .ok p) (hM : s.length + 7 ≤ 2 * M) (hM2 : M ≤ 30) (hin : In true s) : VP (OkL L true) b M p ∧ p.k = 1 ∧ p.q = q := by
  unfold bracesF at h
  have hpl := paramN_le s
  split at h
  · rename_i hc
    injection h with h
    subst h
    refine ⟨.inr (.inl ⟨rfl, rfl, ⟨?_, ?_⟩, ?_, .inl ⟨rfl, .inr rfl⟩⟩), rfl, rfl⟩
    · show s.drop 1 ≠ []
      intro e
      have := congrArg List.length e
      rw [List.length_drop, List.length_nil] at this
      omega
    · show paramN (s.drop 1) = (s.drop 1).length
      rw [List.length_drop]
      exact hc.2.2
    · omega
  · rename_i hno
    split at h
    · cases h
    · rename_i hp0
      have hn := param_take hp0
      have hs0 : 0 < s.length := by omega
      split at h
      · injection h with h
        subst h
        exact ⟨.inr (.inl ⟨rfl, rfl, hn, by omega, .inl ⟨rfl, .inl rfl⟩⟩), rfl, rfl⟩
      · split at h
        · cases h
        · rename_i hne hop
          obtain ⟨w0, hw0, h⟩ := Rs.and_ok h
          split at h
          · cases h
          · rename_i hh
            have hh : hasL w0 = false := by simpa using hh
            injection h with h
            subst h
            -- the text: name, operator, word
            have hop1 : opOf (s.drop (paramN s)) ≠ [] := fun e => hop (.inl e)
            obtain ⟨hmem, hpf⟩ := (opOf_in (s.drop (paramN s))).resolve_left hop1
            have hcut : s.drop (paramN s) = opOf (s.drop (paramN s)) ++ (s.drop (paramN s)).drop (opOf (s.drop (paramN s))).length := by
              have := (of_decide_eq_true hpf).2
              conv => lhs; rw [← List.take_append_drop (opOf (s.drop (paramN s))).length (s.drop (paramN s)), this]
            have hlen : (s.drop (paramN s)).length = s.length - paramN s := List.length_drop
            generalize hr : s.drop (paramN s) = r at *
            have htl : (s.take (paramN s)).length = paramN s := by rw [List.length_take]; omega
            have hsn : s = s.take (paramN s) ++ r := by rw [← hr, List.take_append_drop]
            generalize hg : s.take (paramN s) = n at *
            generalize ho : opOf r = o at *
            generalize hy : r.drop o.length = y at *
            obtain ⟨oc, oy, eo, _, hopl⟩ := ops_head hmem
            have hol : 1 ≤ o.length := by rw [eo]; simp
            have hyl : y.length + o.length = r.length := by rw [hcut]; simp only [List.length_append]; omega
            have hiny : In true y := by
              intro _
              obtain ⟨x, hx⟩ := hin rfl
              refine ⟨x, ?_⟩
              rw [hsn, hcut, List.append_assoc, List.append_assoc, plain_skip (by decide) _ _ (name_pl hn), plain_skip (by decide) _ _ hopl] at hx
              exact hx
            have hr0 : 0 < r.length := List.length_pos_iff.2 hne
            obtain ⟨g1, g2, g3⟩ := hP y w0 (M - 2) hw0 (by omega) (by omega) hiny
            have hOk : OpOk n o w0 := by
              refine ⟨hmem, fun e e2 => ?_, fun e e2 => ?_, fun e e2 e3 => ?_, fun e e2 => hop (.inr ⟨e, e2⟩)⟩
              · have hh := g2 _ e2
                obtain ⟨z, rfl⟩ : ∃ z, y = 37 :: z := by
                  cases y with
                  | nil => cases hh
                  | cons a z => exact ⟨z, by rw [Option.some.inj hh]⟩
                rw [hcut, e] at ho
                have := op_two 37 z (.inl rfl)
                rw [show [37] ++ 37 :: z = 37 :: 37 :: z from rfl, this] at ho
                cases ho
              · have hh := g2 _ e2
                obtain ⟨z, rfl⟩ : ∃ z, y = 35 :: z := by
                  cases y with
                  | nil => cases hh
                  | cons a z => exact ⟨z, by rw [Option.some.inj hh]⟩
                rw [hcut, e] at ho
                have := op_two 35 z (.inr rfl)
                rw [show [35] ++ 35 :: z = 35 :: 35 :: z from rfl, this] at ho
                cases ho
              · have hy0 := g3 e3
                rw [hsn, hcut, hy0, e] at hno
                refine hno ?_
                rcases e2 with e2 | e2 <;> (rw [e2]; decide)
            refine ⟨.inr (.inl ⟨rfl, rfl, hn, by omega, .inr ?_⟩), rfl, rfl⟩
            by_cases hq : q = true
            · have e : (Pt.mk 1 q [] n o (if q = true then qdL [] w0 else w0)).w = qdL [] w0 := by
                show (if q = true then qdL [] w0 else w0) = _
                rw [if_pos hq]
              rw [e]
              have hqn := hd_quoted (qdL_q w0)
              refine ⟨⟨hOk.1, fun _ => by rw [hqn]; simp, fun _ => by rw [hqn]; simp, fun e1 e2 => qdL_ne (hOk.2.2.2.1 e1 e2), hOk.2.2.2.2⟩, qd_ok L g1, hasL_qd _ _ (Nat.lt_succ_self _) hh, fun _ => qd_again w0⟩
            · have e : (Pt.mk 1 q [] n o (if q = true then qdL [] w0 else w0)).w = w0 := by
                show (if q = true then qdL [] w0 else w0) = _
                rw [if_neg hq]
              rw [e]
              exact ⟨hOk, g1, hh, fun e => absurd e hq⟩
theorem dollar_good {L : Nat} {P : Txt → Rs (List Pt)} (hP : PGood L P) {b q : Bool} {r : Txt} {p : Pt} {k M : Nat} (h : dollarF P q (36 :: r) = .ok (p, k)) (hM : k + 4 ≤ 2 * M) (hM2 : M ≤ 30) : (p = tx q [36] ∧ k = 1 ∧ NoD r) ∨ (VP (OkL L true) b M p ∧ p.k ≠ 0 ∧ p.q = q) := by
  unfold dollarF at h
  simp only [List.drop_succ_cons, List.drop_zero] at h
  split at h
  · rename_i hb
    obtain ⟨c, r, rfl⟩ : ∃ c z, r = c :: z := by
      cases r with
      | nil => rcases hb with h | h <;> cases h
      | cons c z => exact ⟨c, z, rfl⟩
    have hc : c = 40 ∨ c = 123 := by simpa using hb
    split at h
    · cases h
    · rename_i t ht
      simp only [List.drop_succ_cons, List.drop_zero, List.head?_cons, Option.some.injEq, List.length_cons] at h
      right
      rcases hc with rfl | rfl
      · rw [if_neg (by decide)] at h
        have ht : untilD 29 41 r = some t := ht
        obtain ⟨y, rfl⟩ := until_split _ _ _ (Nat.lt_succ_self _) ht
        have hloc : ∀ x, untilD 29 41 (y ++ 41 :: x) = some x := by
          intro x
          have := (lev_loc 29).2 41 (y ++ [41]) t x (by simpa using ht)
          simpa using this
        have hlen : (y ++ 41 :: t).length + 1 + 1 - t.length = y.length + 3 := by simp only [List.length_append, List.length_cons]; omega
        rw [hlen] at h
        split at h
        · rename_i ha
          injection h with h
          injection h with h1 h2
          subst h1 h2
          obtain ⟨h4, ha1, ha2⟩ := ha
          have hy2 : 2 ≤ y.length := by omega
          obtain ⟨a, z, rfl⟩ : ∃ a z, y = a :: z := by
            cases y with
            | nil => simp at hy2
            | cons a z => exact ⟨a, z, rfl⟩
          obtain rfl : a = 40 := by simpa using ha1
          simp only [List.length_cons] at hy2
          have hz : z ≠ [] := by rintro rfl; simp at hy2
          obtain ⟨m, e, rfl⟩ : ∃ m e, z = m ++ [e] := ⟨z.dropLast, z.getLast hz, (List.dropLast_concat_getLast hz).symm⟩
          have he : e = 41 := by
            have e1 : (40 :: (m ++ [e])).length + 3 - 2 = (36 :: 40 :: 40 :: m).length := by simp only [List.length_cons, List.length_append, List.length_nil]; omega
            rw [e1] at ha2
            have e2 : 36 :: 40 :: (40 :: (m ++ [e]) ++ 41 :: t) = (36 :: 40 :: 40 :: m) ++ e :: 41 :: t := by simp
            rw [e2, List.getElem?_append_right (Nat.le_refl _), Nat.sub_self] at ha2
            simpa using ha2
          subst he
          have et : ((40 :: (m ++ [41]) ++ 41 :: t).drop 1).take ((40 :: (m ++ [41])).length + 3 - 5) = m := by
            have e1 : (40 :: (m ++ [41])).length + 3 - 5 = m.length := by simp only [List.length_cons, List.length_append, List.length_nil]; omega
            rw [e1]
            show (m ++ [41] ++ 41 :: t).take m.length = m
            rw [List.append_assoc, List.take_left]
          rw [et]
          refine ⟨.inr (.inr (.inr ⟨rfl, rfl, rfl, rfl, fun x => ?_, ?_⟩)), (show (3 : Int) ≠ 0 by decide), rfl⟩
          · have := hloc x
            simpa [Pt.t] using this
          · simp only [List.length_cons, List.length_append, List.length_nil] at hM
            show m.length + 6 ≤ 2 * M
            omega
        · rename_i ha
          injection h with h
          injection h with h1 h2
          subst h1 h2
          rw [show y.length + 3 - 3 = y.length by omega, List.take_left] at *
          refine ⟨.inr (.inr (.inl ⟨rfl, rfl, rfl, rfl, hloc, ?_, ?_⟩)), (show (2 : Int) ≠ 0 by decide), rfl⟩
          · show y.length + 4 ≤ 2 * M
            omega
          · rintro ⟨a1, a2, a3⟩
            have a1 : 1 < y.length := a1
            have a2 : (36 :: 40 :: y ++ [41])[2]? = some 40 := a2
            have a3 : (36 :: 40 :: y ++ [41])[y.length + 1]? = some 41 := a3
            have grow : ∀ i, i < y.length + 3 → (36 :: 40 :: (y ++ 41 :: t))[i]? = (36 :: 40 :: y ++ [41])[i]? := by
              intro i hi
              have e : 36 :: 40 :: (y ++ 41 :: t) = (36 :: 40 :: y ++ [41]) ++ t := by simp
              rw [e, List.getElem?_append_left]
              simp only [List.length_append, List.length_cons, List.length_nil]
              omega
            exact ha ⟨by omega, by rw [grow 2 (by omega)]; exact a2, by rw [show y.length + 3 - 2 = y.length + 1 by omega, grow _ (by omega)]; exact a3⟩
      · rw [if_pos rfl] at h
        have ht : untilD 29 125 r = some t := ht
        obtain ⟨y, rfl⟩ := until_split _ _ _ (Nat.lt_succ_self _) ht
        obtain ⟨x, h1, h⟩ := Rs.and_ok h
        injection h with h
        injection h with h2 h3
        subst h2 h3
        have hlen : (y ++ 125 :: t).length + 1 + 1 - t.length = y.length + 3 := by simp only [List.length_append, List.length_cons]; omega
        rw [hlen] at hM h1
        rw [show y.length + 3 - 3 = y.length by omega, List.take_left] at h1
        obtain ⟨g1, g2, g3⟩ := braces_good (b := b) hP h1 (by omega) hM2 (fun _ => ⟨t, ht⟩)
        exact ⟨g1, by rw [g2]; decide, g3⟩
  · rename_i hb
    split at h
    · rename_i hn
      injection h with h
      injection h with h1 h2
      subst h1 h2
      exact .inr ⟨.inr (.inl ⟨rfl, rfl, param_name hn, by omega, .inl ⟨rfl, .inl rfl⟩⟩), (show (1 : Int) ≠ 0 by decide), rfl⟩
    · rename_i hn
      have hl : ∀ c z, r = c :: z → isLet c = false := by
        rintro c z rfl
        by_cases hl : isLet c = true
        · simp only [nameN, hl, if_true] at hn
          omega
        · simpa using hl
      split at h
      · rename_i hs
        injection h with h
        injection h with h1 h2
        subst h1 h2
        cases r with
        | nil => simp [specN] at hs
        | cons c z =>
          have hsp : isSpec c = true := by
            simp only [specN] at hs
            by_cases hsp : isSpec c = true
            · exact hsp
            · rw [if_neg hsp] at hs; omega
          exact .inr ⟨.inr (.inl ⟨rfl, rfl, param_spec1 (hl c z rfl) hsp, by omega, .inl ⟨rfl, .inl rfl⟩⟩), (show (1 : Int) ≠ 0 by decide), rfl⟩
      · rename_i hs
        injection h with h
        injection h with h1 h2
        subst h1 h2
        refine .inl ⟨rfl, rfl, ?_⟩
        rintro c z rfl
        refine ⟨hl c z rfl, ?_, ?_⟩
        · by_cases hsp : isSpec c = true
          · simp only [specN, hsp, if_true] at hs
            omega
          · simpa using hsp
        · simp only [List.head?_cons, Option.some.injEq, not_or] at hb
          exact hb
/-- Behind what a dollar begins, within braces, one is within them. -/
theorem dollar_in {P : Txt → Rs (List Pt)} {q : Bool} {r : Txt} {p : Pt} {k : Nat} (h : dollarF P q (36 :: r) = .ok (p, k)) (hl : r.length < 60) (hin : In true (36 :: r)) : In true ((36 :: r).drop k) := by
  intro _
  obtain ⟨x, hx⟩ := hin rfl
  obtain ⟨_, u, hu, hux⟩ := inside hx
  refine ⟨x, ?_⟩
  unfold dollarF at h
  simp only [List.drop_succ_cons, List.drop_zero] at h
  split at h
  · rename_i hb
    have hu30 : unitD 30 (36 :: r) = some u := unitD_few hu (by simp only [List.length_cons]; omega)
    rw [hu30] at h
    dsimp only at h
    have e : (36 :: r).drop ((36 :: r).length - u.length) = u := (suf_drop (unitD_ends _ _ _ hu)).symm
    have hk : k = (36 :: r).length - u.length := by
      split at h
      · obtain ⟨x, _, h⟩ := Rs.and_ok h
        injection h with h
        injection h with _ h
        exact h.symm
      · split at h <;> (injection h with h; injection h with _ h; exact h.symm)
    rw [hk, e]
    exact hux
  · rename_i hb
    have hur : u = r := by
      have : unitD 29 (36 :: r) = some r := unit_byte (by decide) (by decide) (by decide) fun _ a y e => by
        subst e
        simp only [List.head?_cons, Option.some.injEq, not_or] at hb
        exact hb
      rw [this] at hu
      exact (Option.some.inj hu).symm
    subst hur
    have skip : ∀ n : Nat, (∀ c ∈ u.take n, Pl c) → untilD 29 125 (u.drop n ++ 125 :: x) = some x := by
      intro n hn
      have := plain_skip (d := 29) (by decide) (u.take n) (u.drop n ++ 125 :: x) hn
      rw [← List.append_assoc, List.take_append_drop] at this
      rw [← this]
      exact hux
    split at h
    · rename_i hn
      injection h with h
      injection h with h1 h2
      subst h1 h2
      exact skip _ (name_pl (param_name hn))
    · rename_i hn
      split at h
      · rename_i hs
        injection h with h
        injection h with h1 h2
        subst h1 h2
        refine skip 1 fun c hc => ?_
        cases u with
        | nil => simp at hc
        | cons a z =>
          obtain rfl : c = a := by simpa using hc
          refine nam_pl (.inr ?_)
          simp only [specN] at hs
          by_cases hsp : isSpec c = true
          · exact hsp
          · rw [if_neg hsp] at hs; omega
      · injection h with h
        injection h with h1 h2
        subst h1 h2
        exact hux
theorem dbl_good {L : Nat} {P : Txt → Rs (List Pt)} (hP : PGood L P) {b : Bool} {M : Nat} (hM2 : M ≤ 30) : ∀ (n : Nat) (acc : List Pt) (s : Txt) (l : List Pt), loopF (dblOne P) n acc s = .ok l → s.length + 4 ≤ 2 * M → (∀ p ∈ acc, VP (OkL L true) b M p ∧ p.q = true) → (acc ≠ [] ∨ s ≠ []) → l ≠ [] ∧ ∀ p ∈ l, VP (OkL L true) b M p ∧ p.q = true
  | 0, _, _, _, h, _, _, _ => by cases h
  | n + 1, acc, [], l, h, _, ha, hne => by
    injection h with h
    subst h
    exact ⟨hne.resolve_right (fun h => h rfl), ha⟩
  | n + 1, acc, c :: r, l, h, hM, ha, _ => by
    simp only [loopF] at h
    obtain ⟨x, h1, h⟩ := Rs.and_ok h
    have ht := dblOne_takes P _ _ h1
    simp only [List.length_cons] at hM ht
    have key : x.1 ≠ [] ∧ ∀ p ∈ x.1, VP (OkL L true) b M p ∧ p.q = true := by
      have one : ∀ t : Txt, VP (OkL L true) b M (tx true t) ∧ (tx true t).q = true := fun t => ⟨.inl ⟨rfl, rfl, rfl, rfl, by omega, fun e => (by cases e)⟩, rfl⟩
      simp only [dblOne] at h1
      split at h1
      · rename_i hc
        subst hc
        obtain ⟨y, h2, h1⟩ := Rs.and_ok h1
        injection h1 with h1
        subst h1
        refine ⟨by simp, fun p hp => ?_⟩
        obtain rfl := List.mem_singleton.1 hp
        rcases dollar_good (b := b) (M := M) hP h2 (by omega) hM2 with ⟨e, _, _⟩ | ⟨e1, e2, e3⟩
        · rw [e]; exact one _
        · exact ⟨e1, e3⟩
      · split at h1
        · injection h1 with h1
          subst h1
          refine ⟨by simp, fun p hp => ?_⟩
          obtain rfl := List.mem_singleton.1 hp
          exact one _
        · injection h1 with h1
          subst h1
          refine ⟨by simp, fun p hp => ?_⟩
          obtain rfl := List.mem_singleton.1 hp
          exact one _
    refine dbl_good hP hM2 n _ _ l h (by rw [List.length_drop, List.length_cons]; omega) ?_ (.inl (fold_ne' key.1))
    exact all_fold (V := fun p => VP (OkL L true) b M p ∧ p.q = true) (fun x p hx _ hg => vp_merge hx hg.2.1) ha key.2
/-- What is taken at a text's head. -/
theorem out_good {L : Nat} {P : Txt → Rs (List Pt)} (hP : PGood L P) {b : Bool} {M : Nat} (hM2 : M ≤ 30) {c : UInt8} {r : Txt} {ps : List Pt} {k : Nat} (h : outOne P (c :: r) = .ok (ps, k)) (hM : r.length + 5 ≤ 2 * M) (hin : In b (c :: r)) :
    In b ((c :: r).drop k) ∧ ((ps = [tx false [c]] ∧ k = 1 ∧ c ≠ 92 ∧ c ≠ 39 ∧ c ≠ 34 ∧ (b = true → c ≠ 125) ∧ (c = 36 → NoD r)) ∨ (ps ≠ [] ∧ ∀ p ∈ ps, VP (OkL L true) b M p ∧ (p.k ≠ 0 ∨ p.q = true))) := by
  have htk := outOne_takes P _ _ h
  have hbr : b = true → c ≠ 125 := fun hb => by
    obtain ⟨x, hx⟩ := hin hb
    exact (inside hx).1
  simp only [outOne] at h
  simp only [List.length_cons] at htk
  split at h
  · rename_i hc
    subst hc
    obtain ⟨y, h2, h⟩ := Rs.and_ok h
    injection h with h
    injection h with h3 h4
    subst h3 h4
    refine ⟨fun hb => dollar_in h2 (by omega) (fun _ => hin hb) rfl, ?_⟩
    rcases dollar_good (b := b) (M := M) hP h2 (by omega) hM2 with ⟨e, e1, e2⟩ | ⟨e1, e2, e3⟩
    · exact .inl ⟨by rw [e], e1, by decide, by decide, by decide, hbr, fun _ => e2⟩
    · refine .inr ⟨by simp, fun p hp => ?_⟩
      obtain rfl := List.mem_singleton.1 hp
      exact ⟨e1, .inl e2⟩
  · rename_i h36
    have one : ∀ t : Txt, VP (OkL L true) b M (tx true t) ∧ ((tx true t).k ≠ 0 ∨ (tx true t).q = true) := fun t => ⟨.inl ⟨rfl, rfl, rfl, rfl, by omega, fun e => (by cases e)⟩, .inr rfl⟩
    split at h
    · rename_i hq
      split at h
      · cases h
      · rename_i t ht
        have hcont : k = r.length + 1 - t.length → In b ((c :: r).drop k) := by
          intro hk hb
          obtain ⟨x, hx⟩ := hin hb
          obtain ⟨_, u, hu, hux⟩ := inside hx
          have hu30 : unitD 30 (c :: r) = some u := unitD_few hu (by simp only [List.length_cons]; omega)
          rw [hu30] at ht
          obtain rfl := Option.some.inj ht
          refine ⟨x, ?_⟩
          have e : (c :: r).drop ((c :: r).length - u.length) = u := (suf_drop (unitD_ends _ _ _ hu)).symm
          rw [hk]
          rw [List.length_cons] at e
          rw [e]
          exact hux
        split at h
        · rename_i h92
          subst h92
          injection h with h
          injection h with h3 h4
          subst h3 h4
          have hk : 2 = r.length + 1 - t.length := by
            cases r with
            | nil => cases ht
            | cons a y =>
              obtain rfl := Option.some.inj (show some y = some t from ht)
              simp only [List.length_cons]
              omega
          refine ⟨hcont hk, .inr ⟨by simp, fun p hp => ?_⟩⟩
          obtain rfl := List.mem_singleton.1 hp
          exact one _
        · split at h
          · rename_i h34
            obtain ⟨l, h5, h⟩ := Rs.and_ok h
            injection h with h
            injection h with h3 h4
            subst h3 h4
            refine ⟨hcont rfl, .inr ?_⟩
            unfold dblF at h5
            split at h5
            · injection h5 with h5
              subst h5
              refine ⟨by simp, fun p hp => ?_⟩
              obtain rfl := List.mem_singleton.1 hp
              exact one _
            · rename_i hne
              obtain ⟨g1, g2⟩ := dbl_good (b := b) (M := M) hP hM2 _ _ _ _ h5 (by rw [List.length_take]; omega) (by simp) (.inr hne)
              exact ⟨g1, fun p hp => ⟨(g2 p hp).1, .inr (g2 p hp).2⟩⟩
          · injection h with h
            injection h with h3 h4
            subst h3 h4
            refine ⟨hcont rfl, .inr ⟨by simp, fun p hp => ?_⟩⟩
            obtain rfl := List.mem_singleton.1 hp
            exact one _
    · rename_i hq
      simp only [not_or] at hq
      injection h with h
      injection h with h3 h4
      subst h3 h4
      refine ⟨fun hb => ?_, .inl ⟨rfl, rfl, hq.1, hq.2.1, hq.2.2, hbr, fun e => absurd e h36⟩⟩
      obtain ⟨x, hx⟩ := hin hb
      obtain ⟨_, u, hu, hux⟩ := inside hx
      have : unitD 29 (c :: r) = some r := unit_byte hq.1 hq.2.1 hq.2.2 fun e => absurd e h36
      rw [this] at hu
      obtain rfl := Option.some.inj hu
      exact ⟨x, hux⟩
theorem bare_snoc {b : Bool} {c : UInt8} (h1 : c ≠ 92) (h2 : c ≠ 39) (h3 : c ≠ 34) (h4 : b = true → c ≠ 125) : ∀ {t : Txt}, Bare b t → (t.getLast? = some 36 → NoD [c]) → Bare b (t ++ [c])
  | [], _, _ => ⟨⟨h1, h2, h3, h4⟩, fun _ => noD_nil, trivial⟩
  | [a], h, hl => ⟨h.1, fun e => hl (by rw [e]; rfl), ⟨⟨h1, h2, h3, h4⟩, fun _ => noD_nil, trivial⟩⟩
  | a :: d :: t, h, hl => ⟨h.1, fun e x y hxy => by
      have := h.2.1 e d t rfl
      injection hxy with e1 _
      rw [← e1]
      exact this, bare_snoc h1 h2 h3 h4 (t := d :: t) h.2.2 (by simpa using hl)⟩
theorem all_add2 {V : Pt → Prop} {l : List Pt} {p : Pt} (hl : ∀ x ∈ l, V x) (hp : V p) (hm : ∀ x, l.getLast? = some x → Mg x p → V (.mk x.k x.q (x.t ++ p.t) x.n x.o x.w)) : ∀ x ∈ addP l p, V x := by
  by_cases h : l = []
  · subst h
    intro x hx
    rw [addP_nil] at hx
    obtain rfl := List.mem_singleton.1 hx
    exact hp
  · obtain ⟨m, y, rfl⟩ := snoc_of h
    rw [addP_snoc]
    intro x hx
    split at hx
    · rename_i hg
      rcases List.mem_append.1 hx with hx | hx
      · exact hl x (List.mem_append_left _ hx)
      · obtain rfl := List.mem_singleton.1 hx
        exact hm y (by simp) hg
    · rcases List.mem_append.1 hx with hx | hx
      · exact hl x hx
      · obtain rfl := List.mem_singleton.1 hx
        exact hp
theorem last_add {l : List Pt} {p z : Pt} (h : (addP l p).getLast? = some z) : z = p ∨ ∃ x, l.getLast? = some x ∧ Mg x p ∧ z = .mk x.k x.q (x.t ++ p.t) x.n x.o x.w := by
  by_cases hl : l = []
  · subst hl
    rw [addP_nil] at h
    exact .inl (by simpa using h.symm)
  · obtain ⟨m, y, rfl⟩ := snoc_of hl
    rw [addP_snoc] at h
    split at h
    · rename_i hg
      exact .inr ⟨y, by simp, hg, by simpa using h.symm⟩
    · exact .inl (by simpa using h.symm)
def Tail (l : List Pt) (s : Txt) : Prop := ∀ p, l.getLast? = some p → p.k = 0 → p.q = false → p.t.getLast? = some 36 → NoD s
/-- What is added is quoted, or no text. -/
theorem fold_hard {L : Nat} {b : Bool} {M : Nat} : ∀ {ps l : List Pt}, (∀ p ∈ l, VP (OkL L true) b M p) → (∀ p ∈ ps, VP (OkL L true) b M p ∧ (p.k ≠ 0 ∨ p.q = true)) → (∀ p ∈ ps.foldl addP l, VP (OkL L true) b M p) ∧ (ps ≠ [] → ∀ p, (ps.foldl addP l).getLast? = some p → p.k ≠ 0 ∨ p.q = true)
  | [], l, h, _ => ⟨h, fun e => absurd rfl e⟩
  | p :: ps, l, h, hp => by
    have hp0 := hp p (by simp)
    have h1 : ∀ x ∈ addP l p, VP (OkL L true) b M x := by
      refine all_add2 h hp0.1 fun x hx hg => (vp_merge ⟨h x (List.mem_of_getLast? hx), ?_⟩ hg.2.1).1
      have := hp0.2.resolve_left (fun e => e hg.1)
      rw [hg.2.2]
      exact this
    obtain ⟨g1, g2⟩ := fold_hard (ps := ps) h1 fun x hx => hp x (by simp [hx])
    refine ⟨g1, fun _ z hz => ?_⟩
    by_cases hps : ps = []
    · subst hps
      rcases last_add hz with rfl | ⟨x, hx, hg, rfl⟩
      · exact hp0.2
      · right
        have := hp0.2.resolve_left (fun e => e hg.1)
        show x.q = true
        rw [hg.2.2]
        exact this
    · exact g2 hps z hz
theorem hd_add {l : List Pt} {p : Pt} (hl : l ≠ []) (ht : ∀ x ∈ l, x.k = 0 → x.q = false → x.t ≠ []) : hd (addP l p) = hd l := by
  obtain ⟨m, y, rfl⟩ := snoc_of hl
  rw [addP_snoc]
  split
  · cases m with
    | nil =>
      show (if y.k = 0 ∧ y.q = false then (y.t ++ p.t).head? else none) = (if y.k = 0 ∧ y.q = false then y.t.head? else none)
      by_cases h : y.k = 0 ∧ y.q = false
      · rw [if_pos h, if_pos h, head_app (ht y (by simp) h.1 h.2)]
      · rw [if_neg h, if_neg h]
    | cons a m => rfl
  · cases m with
    | nil => rfl
    | cons a m => rfl
theorem hd_fold : ∀ {ps l : List Pt}, l ≠ [] → (∀ x ∈ l, x.k = 0 → x.q = false → x.t ≠ []) → (∀ x ∈ ps, x.k = 0 → x.q = false → x.t ≠ []) → hd (ps.foldl addP l) = hd l
  | [], _, _, _, _ => rfl
  | p :: ps, l, h, h1, h2 => by
    rw [List.foldl_cons, hd_fold (ps := ps) (addP_ne l p) ?_ fun x hx => h2 x (by simp [hx]), hd_add h h1]
    refine all_add (V := fun x => x.k = 0 → x.q = false → x.t ≠ []) (fun x p hx _ _ h0 hq e => ?_) h1 (h2 p (by simp))
    have e : x.t ++ p.t = [] := e
    exact hx h0 hq (List.append_eq_nil_iff.1 e).1
theorem vp_text {O : Nat → List Pt → Prop} {b : Bool} {M : Nat} {p : Pt} (h : VP O b M p) (h0 : p.k = 0) (hq : p.q = false) : p.n = [] ∧ p.o = [] ∧ p.w = [] ∧ p.t ≠ [] ∧ Bare b p.t := by
  rcases h with h | h | h | h
  · exact ⟨h.2.1, h.2.2.1, h.2.2.2.1, h.2.2.2.2.2 hq⟩
  · rw [h0] at h; exact absurd h.1 (by decide)
  · rw [h0] at h; exact absurd h.1 (by decide)
  · rw [h0] at h; exact absurd h.1 (by decide)
def HdOf (l : List Pt) (s0 s : Txt) : Prop := (l = [] ∧ s = s0) ∨ (l ≠ [] ∧ s0 ≠ [] ∧ ∀ c, hd l = some c → s0.head? = some c)
theorem loop_good {L : Nat} {P : Txt → Rs (List Pt)} (hP : PGood L P) {b : Bool} {M : Nat} (hM2 : M ≤ 30) {s0 : Txt} : ∀ (n : Nat) (acc : List Pt) (s : Txt) (l : List Pt), loopF (outOne P) n acc s = .ok l → s.length + 4 ≤ 2 * M → In b s → (∀ p ∈ acc, VP (OkL L true) b M p) → Tail acc s → HdOf acc s0 s → (∀ p ∈ l, VP (OkL L true) b M p) ∧ HdOf l s0 []
  | 0, _, _, _, h, _, _, _, _, _ => by cases h
  | n + 1, acc, [], l, h, _, _, ha, _, hh => by
    injection h with h
    subst h
    exact ⟨ha, hh⟩
  | n + 1, acc, c :: r, l, h, hM, hin, ha, htl, hh => by
    simp only [loopF] at h
    obtain ⟨x, h1, h⟩ := Rs.and_ok h
    obtain ⟨ps, k⟩ := x
    have ht := outOne_takes P _ _ h1
    simp only [List.length_cons] at hM ht
    obtain ⟨g1, g2⟩ := out_good (b := b) hP hM2 h1 (by omega) hin
    have hlen : ((c :: r).drop k).length + 4 ≤ 2 * M := by rw [List.length_drop, List.length_cons]; omega
    have hxt : ∀ x ∈ acc, x.k = 0 → x.q = false → x.t ≠ [] := fun x hx h0 hq => (vp_text (ha x hx) h0 hq).2.2.2.1
    have hps : ps ≠ [] ∧ ∀ p ∈ ps, p.k = 0 → p.q = false → p.t = [c] := by
      rcases g2 with ⟨rfl, _⟩ | ⟨e1, e2⟩
      · refine ⟨by simp, fun p hp _ _ => ?_⟩
        obtain rfl := List.mem_singleton.1 hp
        rfl
      · refine ⟨e1, fun p hp h0 hq => ?_⟩
        rcases (e2 p hp).2 with e | e
        · exact absurd h0 e
        · rw [hq] at e; cases e
    have hhd : HdOf (ps.foldl addP acc) s0 ((c :: r).drop k) := by
      right
      refine ⟨fold_ne' hps.1, ?_, ?_⟩
      · rcases hh with ⟨_, e⟩ | ⟨_, e, _⟩
        · rw [← e]; simp
        · exact e
      · intro a hd0
        rcases hh with ⟨rfl, e⟩ | ⟨e1, e2, e3⟩
        · obtain ⟨p, q, rfl⟩ := List.exists_cons_of_ne_nil hps.1
          rw [List.foldl_cons, addP_nil, hd_fold (by simp) ?_ fun x hx h0 hq => by rw [hps.2 x (by simp [hx]) h0 hq]; simp] at hd0
          · unfold hd at hd0
            dsimp only at hd0
            split at hd0
            · rename_i hpq
              rw [hps.2 p (by simp) hpq.1 hpq.2] at hd0
              rw [← e]
              exact hd0
            · cases hd0
          · intro x hx h0 hq
            obtain rfl := List.mem_singleton.1 hx
            rw [hps.2 x (by simp) h0 hq]
            simp
        · rw [hd_fold e1 hxt fun x hx h0 hq => by rw [hps.2 x hx h0 hq]; simp] at hd0
          exact e3 a hd0
    rcases g2 with ⟨rfl, rfl, c1, c2, c3, c4, c5⟩ | ⟨e1, e2⟩
    · have hv : ∀ y ∈ addP acc (tx false [c]), VP (OkL L true) b M y := by
        refine all_add2 ha (.inl ⟨rfl, rfl, rfl, rfl, by omega, fun _ => ⟨by simp [tx, Pt.t], ⟨⟨c1, c2, c3, c4⟩, fun _ => noD_nil, trivial⟩⟩⟩) fun x hx hg => ?_
        have hxq : x.q = false := hg.2.2
        obtain ⟨v1, v2, v3, v4, v5⟩ := vp_text (ha x (List.mem_of_getLast? hx)) hg.2.1 hxq
        refine .inl ⟨hg.2.1, v1, v2, v3, by omega, fun _ => ⟨?_, ?_⟩⟩
        · show x.t ++ [c] ≠ []
          simp
        · refine bare_snoc c1 c2 c3 c4 v5 fun e d y hd => ?_
          have := htl x hx hg.2.1 hxq e c r rfl
          injection hd with e1 _
          rw [← e1]
          exact this
      refine loop_good hP hM2 n _ _ l h hlen g1 hv ?_ hhd
      intro z hz h0 hq he
      have hc : c = 36 := by
        rcases last_add hz with rfl | ⟨x, hx, hg, rfl⟩
        · simpa [tx, Pt.t] using he
        · have he : (x.t ++ [c]).getLast? = some 36 := he
          simpa using he
      exact c5 hc
    · obtain ⟨g3, g4⟩ := fold_hard (ps := ps) ha e2
      refine loop_good hP hM2 n _ _ l h hlen g1 g3 ?_ hhd
      intro z hz h0 hq he
      rcases g4 e1 z hz with e | e
      · exact absurd h0 e
      · rw [hq] at e; cases e
theorem fold_loop_norm {one : Txt → Rs (List Pt × Nat)} : ∀ (n : Nat) (acc : List Pt) (s : Txt) (l : List Pt), loopF one n acc s = .ok l → Norm acc → Norm l
  | 0, _, _, _, h, _ => by cases h
  | n + 1, acc, [], l, h, ha => by
    injection h with h
    subst h
    exact ha
  | n + 1, acc, c :: r, l, h, ha => by
    simp only [loopF] at h
    obtain ⟨x, _, h⟩ := Rs.and_ok h
    exact fold_loop_norm n _ _ l h (Norm.fold ha)
theorem parsed : ∀ (L : Nat) {b : Bool} {M : Nat} {s : Txt} {l : List Pt}, wpL L s = .ok l → s.length + 4 ≤ 2 * M → M ≤ 30 → In b s → OkL L b M l ∧ (∀ c, hd l = some c → s.head? = some c) ∧ (l = [] → s = [])
  | 0, _, _, _, _, h, _, _, _ => by cases h
  | L + 1, b, M, s, l, h, hM, hM2, hin => by
    have hP : PGood L (wpL L) := fun s l M h hM hM2 hin => parsed L h hM hM2 hin
    obtain ⟨g1, g2⟩ := loop_good (s0 := s) hP hM2 _ _ _ _ h hM hin (by simp) (fun p hp => by simp at hp) (.inl ⟨rfl, rfl⟩)
    refine ⟨⟨fold_loop_norm _ _ _ _ h trivial, g1⟩, fun c hc => ?_, fun e => ?_⟩
    · rcases g2 with ⟨rfl, e⟩ | ⟨_, _, e⟩
      · cases hc
      · exact e c hc
    · rcases g2 with ⟨_, e⟩ | ⟨e2, _, _⟩
      · exact e.symm
      · exact absurd e e2
/-- What is parsed, told, is parsed as it was. -/
theorem wp_back {s : Txt} {l : List Pt} (hs : s.length ≤ 40) (h : wpL 30 s = .ok l) : wpL 30 (prL l) = .ok l :=
  back_ok 30 (b := false) (M := 22) (parsed 30 h (by omega) (by decide) (fun e => by cases e)).1 (by decide)
end Go.Proofs.YtckcdbkggaoomaaDoor
