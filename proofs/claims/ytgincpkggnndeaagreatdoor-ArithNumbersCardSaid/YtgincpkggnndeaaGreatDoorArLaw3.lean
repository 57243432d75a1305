/- Expressions of numbers: what is set is told; what stands in brackets is worth the same. Conditions: the library's tables and errors lie as its text lays them (Env). -/
import Derived.Test.YtgincpkggnndeaaGreatDoorArLaw2
import Derived.Test.YtgincpkggnndeaaGreatDoorM2
namespace Go.Proofs.YtgincpkggnndeaaGreatDoor
open Go.RowKit Vc
variable {w : World}

theorem setW_new {a : Int} (x : Txt) : setW [vr [97] x] [98] a = .ok (a, [vr [97] x, vr [98] (Lib.itoa a)]) := by
  have hs : setR [vr [97] x] [98] (Lib.itoa a) = ([vr [97] x, vr [98] (Lib.itoa a)], 0) := by
    generalize Lib.itoa a = y
    rfl
  unfold setW
  rw [hs]
  rfl
theorem setW_old {z : Int} (x : Txt) (V : List Vr) : setW (vr [97] x :: V) [97] z = .ok (z, vr [97] (Lib.itoa z) :: V) := by
  have hs : setR (vr [97] x :: V) [97] (Lib.itoa z) = (vr [97] (Lib.itoa z) :: V, 0) := by
    generalize Lib.itoa z = y
    rfl
  unfold setW
  rw [hs]
  rfl
theorem sets1 {a : Int} (ha : I64 a) (ham : a ≠ -9223372036854775808) : evalR [98, 32, 61, 32, 97] [vr [97] (Lib.itoa a)] = .ok (a, [vr [97] (Lib.itoa a), vr [98] (Lib.itoa a)]) := by
  rw [evalR_of (f := 200) (t := .set [98] [] (.nam [97])) (r := []) (by decide) (by kernel_rfl) rfl]
  simp only [ev]
  rw [getW_a ha ham]
  simp only [andP]
  rw [if_pos trivial]
  exact setW_new _
theorem sets2 {a b : Int} (hb : I64 b) (hbm : b ≠ -9223372036854775808) (x : Txt) : evalR [98] [vr [97] x, vr [98] (Lib.itoa b)] = .ok (b, [vr [97] x, vr [98] (Lib.itoa b)]) := by
  rw [evalR_of (f := 200) (t := .nam [98]) (r := []) (by decide) (by kernel_rfl) rfl]
  simp only [ev]
  rw [getW_b hb hbm]
  rfl
theorem sets3 (V : List Vr) : evalR [97, 32, 43, 61, 32, 98, 44, 32, 49] V = .bad 130 :=
  evalR_bad (f := 200) (t := .set [97] [43] (.nam [98])) (r := [44, 32, 49]) (by decide) (by kernel_rfl) (by decide)
theorem sets4 {a : Int} (ha : I64 a) (ham : a ≠ -9223372036854775808) : evalR [97, 32, 45, 61, 32, 98] [vr [97] (Lib.itoa a), vr [98] (Lib.itoa a)] = .ok (0, [vr [97] (Lib.itoa 0), vr [98] (Lib.itoa a)]) := by
  rw [evalR_of (f := 200) (t := .set [97] [45] (.nam [98])) (r := []) (by decide) (by kernel_rfl) rfl]
  simp only [ev]
  rw [getW_b ha ham]
  simp only [andP]
  rw [if_neg (by decide), getW_a ha ham]
  simp only
  have hr : reck [45] a a = .ok 0 := by
    rw [reck_ok (by decide)]
    have : reckV [45] a a = IntKind.i64.wrap (a - a) := rfl
    rw [this, Int.sub_self]
    rfl
  rw [hr]
  exact setW_old _ _
theorem ArithSets_spec (he : Env w) {a b : Int} (ha : I64 a) : Calls Tryz.prog fn_law13_ArithSets #[.int .i64 a, .int .i64 b] w (fun e w' => e = .returned (.bool true) ∧ Still w w') := by
  refine law13_ArithSets_calls _ _ _ _ ?_
  refine (lawake_spec he).mono ?_
  rintro _ w1 ⟨rfl, s1⟩
  refine .inl ⟨_, rfl, bsel_of (fun hx => absurd hx (by decide)) (fun _ => bsel_of (fun _ => ⟨rfl, s1⟩) (fun ham => bsel_of (fun _ => ⟨rfl, s1⟩) (fun _ => ?_)))⟩
  have ham := of_decide_eq_false ham
  have ia := itoa_len ha
  have i0 : (Lib.itoa 0).length ≤ 21 := itoa_len (by decide)
  refine (rdigits_spec a ha).mono ?_
  rintro _ w2 ⟨rfl, s2⟩
  refine .inl ⟨_, rfl, allocK fun w3 r3 s3 _ => ?_⟩
  have hs3 := (s1.trans s2).trans s3
  refine (peval (he.still hs3) (VarAt.row (l := [vr [97] (Lib.itoa a)]) r3) (fit1 (by omega) (by decide)) (by decide)).mono ?_
  intro e w4 h4
  rw [sets1 ha ham] at h4
  obtain ⟨⟨_, q4, D4, rfl, v4⟩, s4⟩ := h4
  have hs4 := hs3.trans s4
  refine .inl ⟨_, _, _, _, _, rfl, (peval (he.still hs4) v4 (fit2 (by omega) (by omega) (by decide)) (by decide)).mono ?_⟩
  intro e w5 h5
  rw [sets2 (a := a) ha ham] at h5
  obtain ⟨⟨_, q5, D5, rfl, v5⟩, s5⟩ := h5
  have hs5 := hs4.trans s5
  refine .inl ⟨_, _, _, _, _, rfl, (peval (he.still hs5) v5 (fit2 (by omega) (by omega) (by decide)) (by decide)).mono ?_⟩
  intro e w6 h6
  rw [sets3] at h6
  obtain ⟨rfl, s6⟩ := h6
  have hs6 := hs5.trans s6
  refine .inl ⟨_, _, _, _, _, rfl, (peval (he.still hs6) (v5.still s6) (fit2 (by omega) (by omega) (by decide)) (by decide)).mono ?_⟩
  intro e w7 h7
  rw [sets4 ha ham] at h7
  obtain ⟨⟨_, q7, D7, rfl, v7⟩, s7⟩ := h7
  refine .inl ⟨_, _, _, _, _, rfl, bsel_of (fun _ => ?_) (fun hx => absurd hx (by decide))⟩
  refine bsel_of (fun _ => bsel_of (fun _ => bsel_of (fun _ => bsel_of (fun _ => bsel_of (fun _ => bsel_of (fun _ => bsel_of (fun _ => ⟨rfl, hs6.trans s7⟩) (fun hx => absurd hx (by decide))) (fun hx => absurd hx (by decide))) (fun hx => absurd hx (by decide))) (fun hx => absurd rfl (of_decide_eq_false hx))) (fun hx => absurd rfl (of_decide_eq_false hx))) (fun hx => absurd hx (by decide))) (fun hx => absurd hx (by decide))
/-! ### Brackets -/
abbrev pre : Txt := [32, 10, 40, 32]
theorem opAt_paren (u : Txt) : opAt (40 :: u) = [40] := by
  have ht : trim (40 :: u) = 40 :: u := by
    unfold trim
    rw [List.dropWhile_cons, if_neg (by decide)]
  unfold opAt
  rw [ht]
  simp [allOps, List.isPrefixOf]
theorem aft_paren (u : Txt) : aft (40 :: u) = u := by
  have ht : trim (40 :: u) = 40 :: u := by
    unfold trim
    rw [List.dropWhile_cons, if_neg (by decide)]
  unfold aft
  rw [ht, opAt_paren]
  rfl
/-- What was read within brackets is read through all levels. -/
theorem ps_levels {f : Nat} {s r : Txt} {t : Tm} (h : ps f (.sig 1) s = some (.ok (t, r))) (hr : ∀ l, opAt r ∉ lv l) : ∀ k l, l + k = 10 → ps (f + 1 + k) (.lev l 1) s = some (.ok (t, if k = 0 then r else trim r))
  | 0, l, hl => by
    have : l = 10 := by omega
    subst this
    rw [if_pos rfl, Nat.add_zero, ps, if_pos (by decide)]
    exact h
  | k + 1, l, hl => by
    have ih := ps_levels h hr k (l + 1) (by omega)
    rw [if_neg (by omega)]
    have e : f + 1 + (k + 1) = (f + 1 + k) + 1 := by omega
    rw [e, ps, if_neg (by omega), ih]
    show ps (f + 1 + k) (.loop l 1 t) _ = _
    have e2 : f + 1 + k = (f + k) + 1 := by omega
    have go : ∀ b : Txt, opAt b = opAt r → trim b = trim r → ps (f + k + 1) (.loop l 1 t) b = some (.ok (t, trim r)) := by
      intro b h1 h2
      rw [ps, if_neg (by rw [h1]; exact hr l), h2]
    rw [e2]
    split
    · exact go _ rfl rfl
    · exact go _ (opAt_trim _) (trim_trim _)
theorem brackets {s : Txt} {V : List Vr} {z : Int × List Vr} (h0 : trim s ≠ []) (hoc : oc s ≤ 28) (h : evalR s V = .ok z) : evalR (pre ++ s ++ suf) V = .ok z := by
  have htr : rd (trim s) = rd s ∧ True := ⟨?_, trivial⟩
  rotate_left
  · refine rd_of (f := 50 * s.length + 100) ?_
    rw [ps_trim]
    exact rd_eq s
  unfold evalR at h
  rw [if_neg h0, htr.1] at h
  split at h
  · cases h
  rename_i p hp
  obtain ⟨t, r⟩ := p
  dsimp only at h
  split at h
  rotate_left
  · cases h
  rename_i hr
  have hps := rd_eq s
  rw [hp] at hps
  obtain ⟨_, r', h2, h3⟩ := ps_up _ (.expr 1) s t r hps (by simp only [deep]; omega)
  have h2 : ps (50 * s.length + 100) (.expr 2) (s ++ suf) = some (.ok (t, r')) := h2
  have hr' : trim r' = [41, 9] := by
    rw [h3, trim_app_nil hr]
    decide
  have ho' : opAt r' = [41] := by
    rw [← opAt_trim, hr']
    decide
  have ha' : aft r' = [9] := by
    rw [← aft_trim, hr']
    decide
  have ht : trim (pre ++ s ++ suf) = 40 :: 32 :: (s ++ suf) := by
    unfold trim
    simp only [pre, List.cons_append, List.nil_append, List.dropWhile_cons]
    rw [if_pos (by decide), if_pos (by decide), if_neg (by decide)]
  have hsp : ps (50 * s.length + 100) (.expr 2) (32 :: (s ++ suf)) = some (.ok (t, r')) := by
    rw [← h2]
    refine ps_sim ?_
    unfold trim
    rw [List.dropWhile_cons, if_pos (by decide)]
  have hsig : ps (50 * s.length + 100 + 1) (.sig 1) (40 :: 32 :: (s ++ suf)) = some (.ok (t, [9])) := by
    rw [ps, if_neg (by decide), opAt_paren, if_neg (by decide), if_pos rfl, aft_paren, hsp]
    simp only [andR]
    rw [ho', if_neg (fun e => e rfl), ha']
  have hno : ∀ l, opAt [9] ∉ lv l := by
    intro l hl
    have : opAt [9] = [] := by decide
    rw [this] at hl
    exact lv_ne hl rfl
  have hlev := ps_levels hsig hno 10 0 rfl
  rw [if_neg (by decide), show trim [9] = [] from by decide] at hlev
  have hasg : asg (40 :: 32 :: (s ++ suf)) = none := by
    unfold asg
    dsimp only
    rw [if_neg]
    rintro ⟨e, _⟩
    have ht2 : trim (40 :: 32 :: (s ++ suf)) = 40 :: 32 :: (s ++ suf) := by
      unfold trim
      rw [List.dropWhile_cons, if_neg (by decide)]
    rw [ht2] at e
    simp only [nameN] at e
    rw [if_neg (by decide)] at e
    exact e rfl
  have ht2 : trim (40 :: 32 :: (s ++ suf)) = 40 :: 32 :: (s ++ suf) := by
    unfold trim
    rw [List.dropWhile_cons, if_neg (by decide)]
  have hall : ps (50 * s.length + 100 + 1 + 1 + 10 + 1 + 1) (.expr 1) (40 :: 32 :: (s ++ suf)) = some (.ok (t, [])) := by
    generalize hf : 50 * s.length + 100 + 1 + 1 + 10 = f at hlev
    rw [ps, if_neg (by decide), hasg]
    dsimp only
    rw [ht2, ps, hlev]
    simp only [andR]
    rw [if_pos (by decide)]
    rfl
  rw [evalR_of (s := pre ++ s ++ suf) (by rw [ht]; simp) (by rw [ht]; exact hall) rfl]
  exact h
theorem signs_oc (vs : List Nat) : oc (piecesR signs13 vs) ≤ 28 ∧ ∀ c ∈ piecesR signs13 vs, c ≠ 9 ∧ c ≠ 10 := by
  have h2 : ∀ i, oc (signs13.getD i []) ≤ 2 := by
    intro i
    have : ∀ x ∈ signs13, oc x ≤ 2 := by decide
    rw [List.getD_eq_getElem?_getD]
    cases hx : signs13[i]? with
    | none => exact Nat.zero_le _
    | some x => exact this x (List.mem_of_getElem? hx)
  have h3 : ∀ i, ∀ c ∈ signs13.getD i [], c ≠ 9 ∧ c ≠ 10 := by
    intro i
    have : ∀ x ∈ signs13, ∀ c ∈ x, c ≠ 9 ∧ c ≠ 10 := by decide
    rw [List.getD_eq_getElem?_getD]
    cases hx : signs13[i]? with
    | none => intro c hc; cases hc
    | some x => exact this x (List.mem_of_getElem? hx)
  have key : ∀ l : List Nat, oc (l.flatMap fun v => signs13.getD (v % signs13.length) []) ≤ l.length * 2 := by
    intro l
    induction l with
    | nil => exact Nat.zero_le _
    | cons a l ih =>
      rw [List.flatMap_cons, oc_app, List.length_cons]
      have := h2 (a % signs13.length)
      omega
  refine ⟨?_, ?_⟩
  · have := key (vs.take 14)
    rw [List.length_take] at this
    unfold piecesR
    omega
  · intro c hc
    unfold piecesR at hc
    obtain ⟨v, _, hv⟩ := List.mem_flatMap.1 hc
    exact h3 _ c hv
theorem trim_blank {s : Txt} (h : ∀ c ∈ s, c ≠ 9 ∧ c ≠ 10) (ht : trim s = []) : s.all (· == 32) = true := by
  induction s with
  | nil => rfl
  | cons c s ih =>
    unfold trim at ht ih
    rw [List.dropWhile_cons] at ht
    split at ht
    · rename_i hb
      have hc := h c (by simp)
      have : c = 32 := by
        unfold blank3 at hb
        simp only [Bool.or_eq_true, beq_iff_eq] at hb
        rcases hb with (hb | hb) | hb
        · exact hb
        · exact absurd hb hc.1
        · exact absurd hb hc.2
      rw [List.all_cons, ih (fun d hd => h d (by simp [hd])) ht, this]
      rfl
    · cases ht
theorem ArithBlanks_spec (he : Env w) {l : Option Addr} {lL lC : Nat} {vs : List Nat} (hl : U8At w l lL vs) {a : Nat} (ha : a < 256) : Calls Tryz.prog fn_law13_ArithBlanks #[.slice l lL lC, .int .u8 (a : Int)] w (fun e w' => e = .returned (.bool true) ∧ Still w w') := by
  refine law13_ArithBlanks_calls _ _ _ _ _ _ ?_
  refine (lawake_spec he).mono ?_
  rintro _ w1 ⟨rfl, s1⟩
  refine .inl ⟨_, rfl, bsel_of (fun hx => absurd hx (by decide)) (fun _ => ?_)⟩
  refine lsigns_spec.mono ?_
  rintro _ w2 ⟨g, rfl, hg, s2⟩
  have hs2 := s1.trans s2
  refine .inl ⟨_, _, _, rfl, (signs_pieces (hl.still hs2) hg).mono ?_⟩
  rintro _ w3 ⟨rfl, rfl⟩
  have hp := piecesR_len (sg := signs13) (M := 19) (by decide) vs
  obtain ⟨hoc, hbl⟩ := signs_oc vs
  refine .inl ⟨_, rfl, allocK fun w4 r4 s4 _ => ⟨by decide, ?_⟩⟩
  have r4 : Row w4 w3.heap.size _ ⟨strs [[], [53], [45, 51]]⟩ := r4
  have e3 := u8_tmod ha 3
  have l3 : a % 3 < 3 := Nat.mod_lt _ (by decide)
  rw [show Int.tmod (IntKind.i64.wrap (a : Int)) 3 = ((a % 3 : Nat) : Int) from e3]
  refine ⟨by omega, by omega, ([[], [53], [45, 51]] : List Txt).getD (a % 3) [], ?_, ?_⟩
  · rw [Int.toNat_natCast, Nat.mul_one, add_row, Nat.zero_add]
    exact r4.lget (strs_getD (l := [[], [53], [45, 51]]) l3)
  have lx : (([[], [53], [45, 51]] : List Txt).getD (a % 3) []).length ≤ 2 := getD_len (by decide)
  generalize ([[], [53], [45, 51]] : List Txt).getD (a % 3) [] = x at *
  refine allocK fun w5 r5 s5 _ => ?_
  have hs5 := (hs2.trans s4).trans s5
  have hv5 := VarAt.row (l := [vr [97] x]) r5
  refine (peval (he.still hs5) hv5 (fit1 (by omega) (by omega)) (by omega)).mono ?_
  intro e w6 h6
  -- the last part, whatever the second answer is
  have last : ∀ {w7 : World} {n6 n7 e6 e7 : Int} {q6 q7 : Option Addr} {L6 D6 L7 D7 : Nat} {R : Ending → World → Prop}, Still w w7 → (∀ w', Still w w' → R (.returned (.bool true)) w') →
      (e6 = 0 → trim (piecesR signs13 vs) ≠ [] → e7 = 0 ∧ n6 = n7 ∧ ∃ V, VarAt w7 q6 L6 D6 V ∧ VarAt w7 q7 L7 D7 V ∧ L6 < 1000000) →
      bsel (!decide (e6 = 0)) (R (.returned (.bool true)) w7) (Calls Tryz.prog fn_law13_Signs #[] w7 (fun ed w8 => (∃ (r9 : Option Addr) (rL3 rC3 : Nat), ed = .returned (.slice r9 rL3 rC3) ∧ Calls Tryz.prog fn_law07_Pieces #[.slice l lL lC, .slice r9 rL3 rC3] w8 (fun ed1 w9 => (∃ r10 : List UInt8, ed1 = .returned (.string (S r10)) ∧ bsel (decide (r10 = [])) (R (.returned (.bool true)) w9) (Calls Tryz.prog fn_law13_blank #[.string (S (piecesR signs13 vs))] w9 (fun ed2 w10 => (∃ r11 : Bool, ed2 = .returned (.bool r11) ∧ bsel r11 (R (.returned (.bool true)) w10) (bsel (decide (e7 = 0)) (bsel (decide (n6 = n7)) (Calls Tryz.prog fn_ref12_Same #[.slice q6 L6 D6, .slice q7 L7 D7] w10 (fun ed3 w11 => (∃ r12 : Bool, ed3 = .returned (.bool r12) ∧ R (.returned (.bool r12)) w11) ∨ ∃ ch, ed3 = .panicked ch ∧ R (.panicked ch) w11)) (R (.returned (.bool false)) w10)) (R (.returned (.bool false)) w10))) ∨ ∃ ch, ed2 = .panicked ch ∧ R (.panicked ch) w10))) ∨ ∃ ch, ed1 = .panicked ch ∧ R (.panicked ch) w9)) ∨ ∃ ch, ed = .panicked ch ∧ R (.panicked ch) w8)) := by
    intro w7 n6 n7 e6 e7 q6 q7 L6 D6 L7 D7 R hs7 hR hag
    refine bsel_of (fun _ => hR _ hs7) (fun h0 => ?_)
    have h0 := nd h0
    refine lsigns_spec.mono ?_
    rintro _ w8 ⟨g8, rfl, hg8, s8⟩
    have hs8 := hs7.trans s8
    refine .inl ⟨_, _, _, rfl, (signs_pieces (hl.still hs8) hg8).mono ?_⟩
    rintro _ w9 ⟨rfl, rfl⟩
    refine .inl ⟨_, rfl, bsel_of (fun _ => hR _ hs8) (fun _ => (blank_spec _ (by omega)).mono ?_)⟩
    rintro _ w10 ⟨rfl, rfl⟩
    refine .inl ⟨_, rfl, bsel_of (fun _ => hR _ hs8) (fun hb => ?_)⟩
    have ht : trim (piecesR signs13 vs) ≠ [] := fun e => by rw [trim_blank hbl e] at hb; cases hb
    obtain ⟨h7, hn, V, hv6, hv7, hL⟩ := hag h0 ht
    refine bsel_of (fun _ => bsel_of (fun _ => ?_) (fun hx => absurd hn (of_decide_eq_false hx))) (fun hx => absurd h7 (of_decide_eq_false hx))
    refine (rsame_spec (hv6.still s8) (hv7.still s8) (by omega)).mono ?_
    rintro _ w11 ⟨rfl, s11⟩
    rw [decide_eq_true rfl]
    exact .inl ⟨_, rfl, hR _ (hs8.trans s11)⟩
  have lt : ([32, 10, 40, 32] ++ piecesR signs13 vs ++ [32, 41, 9] : Txt).length ≤ 300 := by
    simp only [List.length_append, List.length_cons, List.length_nil]
    omega
  rcases h6.out with ⟨z, q6, D6, hr6, hi6, rfl, hv6, s6⟩ | ⟨k, hr6, rfl, s6⟩
  · refine .inl ⟨_, _, _, _, _, rfl, by simp only [List.length_cons, List.length_nil]; omega, by simp only [List.length_append, List.length_cons, List.length_nil]; omega, (peval (he.still (hs5.trans s6)) (hv5.still s6) (fit1 (by omega) (by omega)) (by omega)).mono ?_⟩
    intro e w7 h7
    have hs7 := (hs5.trans s6).trans h7.2
    have hz := evalR_len hr6
    simp only [List.length_cons, List.length_nil] at hz
    rcases h7.out with ⟨z7, q7, D7, hr7, hi7, rfl, hv7, s7⟩ | ⟨k, hr7, rfl, s7⟩
    · refine .inl ⟨_, _, _, _, _, rfl, bsel_of (fun _ => last (R := fun e w' => e = .returned (.bool true) ∧ Still w w') hs7 (fun w' h => ⟨rfl, h⟩) fun _ ht => ?_) (fun hx => absurd hx (by decide))⟩
      have := brackets ht hoc hr6
      rw [hr7] at this
      injection this with this
      subst this
      exact ⟨rfl, rfl, _, hv6.still s7, hv7, by omega⟩
    · refine .inl ⟨_, _, _, _, _, rfl, bsel_of (fun _ => last (R := fun e w' => e = .returned (.bool true) ∧ Still w w') hs7 (fun w' h => ⟨rfl, h⟩) fun _ ht => ?_) (fun hx => absurd hx (by decide))⟩
      have := brackets ht hoc hr6
      rw [hr7] at this
      cases this
  · have hk : k ≠ 0 := by
      rintro rfl
      exact absurd hr6 (evalR_err _ _)
    refine .inl ⟨_, _, _, _, _, rfl, by simp only [List.length_cons, List.length_nil]; omega, by simp only [List.length_append, List.length_cons, List.length_nil]; omega, (peval (he.still (hs5.trans s6)) (hv5.still s6) (fit1 (by omega) (by omega)) (by omega)).mono ?_⟩
    intro e w7 h7
    have hs7 := (hs5.trans s6).trans h7.2
    rcases h7.out with ⟨z7, q7, D7, hr7, hi7, rfl, hv7, s7⟩ | ⟨k7, hr7, rfl, s7⟩
    · exact .inl ⟨_, _, _, _, _, rfl, bsel_of (fun _ => last (R := fun e w' => e = .returned (.bool true) ∧ Still w w') hs7 (fun w' h => ⟨rfl, h⟩) fun h _ => absurd h (by omega)) (fun hx => absurd hx (by decide))⟩
    · exact .inl ⟨_, _, _, _, _, rfl, bsel_of (fun _ => last (R := fun e w' => e = .returned (.bool true) ∧ Still w w') hs7 (fun w' h => ⟨rfl, h⟩) fun h _ => absurd h (by omega)) (fun hx => absurd hx (by decide))⟩
end Go.Proofs.YtgincpkggnndeaaGreatDoor
