/- Expressions of numbers: the program's reading, walked by induction on the plain reading's fuel. Conditions: the library's tables and errors lie as its text lays them (Env). -/
import Derived.Test.YtgincpkggnndeaaGreatDoorArParse2
namespace Go.Proofs.YtgincpkggnndeaaGreatDoor
open Go.RowKit Vc

def PSpec (w : World) (g : Nat) (q : Pr (Tm × Txt)) : Md → Prop
  | .expr d => Calls Tryz.prog fn_arith_parser_expr #[.pointer (some ⟨g, 0, none⟩), .int .i64 (d : Int)] w (PPost w g q)
  | .cho d => Calls Tryz.prog fn_arith_parser_choice #[.pointer (some ⟨g, 0, none⟩), .int .i64 (d : Int)] w (PPost w g q)
  | .lev l d => l ≤ 10 → Calls Tryz.prog fn_arith_parser_level #[.pointer (some ⟨g, 0, none⟩), .int .i64 (l : Int), .int .i64 (d : Int)] w (PPost w g q)
  | .sig d => Calls Tryz.prog fn_arith_parser_signed #[.pointer (some ⟨g, 0, none⟩), .int .i64 (d : Int)] w (PPost w g q)
  | .loop _ _ _ => True
def dep : Md → Nat
  | .expr d => d
  | .cho d => d
  | .lev _ d => d
  | .loop _ d _ => d
  | .sig d => d
theorem PPost.bad {w w' : World} {g k : Nat} (hm : Mod (fun k => k = g) w w') : PPost w g (.bad k) (.panicked (errP k)) w' := ⟨rfl, hm⟩
theorem trimSuf (o : Txt) (h : o ∈ asgOps) (w : World) : Calls Tryz.prog fn_strings_TrimSuffix #[.string (S o), .string (S [61])] w (fun e w' => e = .returned (.string (S o.dropLast)) ∧ w' = w) := by
  refine (Tryz.strings_TrimSuffix (S o) (S [61]) w (by
    have : ∀ o ∈ asgOps, o.length ≤ 2 := by decide
    have := this o h
    show o.length ≤ _
    omega)).mono ?_
  rintro _ w1 ⟨rfl, rfl⟩
  have : ∀ o ∈ asgOps, Lib.trimSuffix o [61] = o.dropLast := by decide
  refine ⟨?_, rfl⟩
  have e : Lib.trimSuffix (S o).data.toList (S [61]).data.toList = o.dropLast := this o h
  rw [e]
abbrev alS : Txt := [48, 49, 50, 51, 52, 53, 54, 55, 56, 57, 65, 66, 67, 68, 69, 70, 71, 72, 73, 74, 75, 76, 77, 78, 79, 80, 81, 82, 83, 84, 85, 86, 87, 88, 89, 90, 95, 97, 98, 99, 100, 101, 102, 103, 104, 105, 106, 107, 108, 109, 110, 111, 112, 113, 114, 115, 116, 117, 118, 119, 120, 121, 122]
theorem alS_has (c : UInt8) : alS.contains c = isWordC c := by
  have h : ∀ n : Nat, n < 256 → alS.contains (UInt8.ofNat n) = isWordC (UInt8.ofNat n) := by decide +kernel
  have := h c.toNat c.toNat_lt
  rwa [UInt8.ofNat_toNat] at this
theorem drop_word (s : Txt) : s.dropWhile (alS.contains ·) = s.drop (wordN s) := by
  have e : (alS.contains · : UInt8 → Bool) = isWordC := by funext c; exact alS_has c
  rw [e]
  unfold wordN
  induction s with
  | nil => rfl
  | cons c s ih =>
    rw [List.dropWhile_cons, List.takeWhile_cons]
    split
    · rw [List.length_cons, List.drop_succ_cons]
      exact ih
    · rfl
/-- How long the text is that the parser holds. -/
def textLen (g : Nat) (w : World) : Nat := match w.cell? ⟨g, 0, none⟩ with
  | some (.string s) => s.size
  | _ => 0
theorem textLen_row {w : World} {g : Nat} {s : Txt} (h : PRow w g s) : textLen g w = s.length := by
  have hc : w.cell? ⟨g, 0, none⟩ = some (.string (S s)) := h.lget rfl
  unfold textLen
  rw [hc]
  rfl
set_option maxHeartbeats 4000000 in
theorem parse_spec {w0 : World} (he : Env w0) {g : Nat} (hg : w0.heap.size ≤ g) : ∀ (f : Nat) (m : Md) (s : Txt) (q : Pr (Tm × Txt)), ps f m s = some q → ∀ {w : World}, Still w0 w → PRow w g s → dep m + s.length ≤ 2000000 → PSpec w g q m
  | 0, _, _, _, h, _, _, _, _ => by simp [ps] at h
  | f + 1, .expr d, s, q, h, w, h0, hr, hd => by
    simp only [dep] at hd
    simp only [ps] at h
    show Calls _ _ _ _ _
    refine arith_parser_expr_calls _ _ _ _ ?_
    refine (want_spec (decide ((d : Int) ≤ 30)) 2).mono ?_
    rintro _ w1 ⟨h1, rfl⟩
    split at h
    · rename_i h30
      injection h with h
      rw [decide_eq_false (by omega), if_neg (by decide)] at h1
      subst h1 h
      exact .inr ⟨_, rfl, PPost.bad (Mod.refl _ _)⟩
    rename_i h30
    rw [decide_eq_true (by omega), if_pos rfl] at h1
    subst h1
    refine .inl ⟨rfl, (assigned_spec hr (by omega)).mono ?_⟩
    rintro _ w2 ⟨h2, hm2⟩
    have st2 := h0.box hg hm2
    cases ha : asg s with
    | some p =>
      obtain ⟨n, o, r⟩ := p
      rw [ha] at h h2
      dsimp only at h h2
      obtain ⟨rfl, hr2⟩ := h2
      have hal := asg_len ha
      have e1 : IntKind.i64.wrap ((d : Int) + 1) = ((d + 1 : Nat) : Int) := by rw [wrap_i64 (by omega) (by omega)]; omega
      refine .inl ⟨_, _, _, rfl, bsel_of (fun _ => ?_) (fun h => absurd h (by decide))⟩
      refine (trimSuf o (asg_ok ha).2.2 w2).mono ?_
      rintro _ w3 ⟨rfl, rfl⟩
      refine .inl ⟨_, rfl, ?_⟩
      rw [e1]
      rcases andR_some h with ⟨k, h3, rfl⟩ | ⟨t, r', h3, h4⟩
      · have hp : Calls _ _ _ _ _ := parse_spec he hg f _ _ _ h3 st2 hr2 (by simp only [dep]; omega)
        refine hp.mono ?_
        rintro _ w4 ⟨rfl, hm4⟩
        exact .inr ⟨_, rfl, PPost.bad (mod_trans hm2 hm4)⟩
      · injection h4 with h4
        subst h4
        have hp : Calls _ _ _ _ _ := parse_spec he hg f _ _ _ h3 st2 hr2 (by simp only [dep]; omega)
        refine hp.mono ?_
        rintro _ w4 ⟨⟨b, rfl, ht4, hr4⟩, hm4⟩
        refine .inl ⟨_, rfl, allocK fun w5 r5 s5 z5 => allocK fun w6 r6 s6 z6 => ⟨⟨_, rfl, ⟨_, b, r6, r5.still s6, ht4.still (s5.trans s6)⟩, hr4.still (s5.trans s6)⟩, mod_still (mod_trans hm2 hm4) (s5.trans s6)⟩⟩
    | none =>
      rw [ha] at h h2
      dsimp only at h h2
      obtain ⟨rfl, hr2⟩ := h2
      have htl := trim_len s
      refine .inl ⟨_, _, _, rfl, bsel_of (fun h => absurd h (by decide)) (fun _ => ?_)⟩
      have hp : Calls _ _ _ _ _ := parse_spec he hg f _ _ _ h st2 hr2 (by simp only [dep]; omega)
      refine hp.mono ?_
      rintro e w4 ⟨h4, hm4⟩
      cases q with
      | bad k => exact .inr ⟨_, h4, PPost.bad (mod_trans hm2 hm4)⟩
      | ok p =>
        obtain ⟨b, h5, ht, hr4⟩ := h4
        exact .inl ⟨_, h5, ⟨_, rfl, ht, hr4⟩, mod_trans hm2 hm4⟩
  | f + 1, .cho d, s, q, h, w, h0, hr, hd => by
    simp only [dep] at hd
    simp only [ps] at h
    show Calls _ _ _ _ _
    refine arith_parser_choice_calls _ _ _ _ ?_
    have e1 : IntKind.i64.wrap ((d : Int) + 1) = ((d + 1 : Nat) : Int) := by rw [wrap_i64 (by omega) (by omega)]; omega
    rcases andR_some h with ⟨k, h1, rfl⟩ | ⟨c, u, h1, h2⟩
    · have hp : (0 : Nat) ≤ 10 → Calls _ _ _ _ _ := parse_spec he hg f (.lev 0 d) _ _ h1 h0 hr (by simp only [dep]; omega)
      refine (hp (by decide)).mono ?_
      rintro _ w1 ⟨rfl, hm1⟩
      exact .inr ⟨_, rfl, PPost.bad hm1⟩
    have hp : (0 : Nat) ≤ 10 → Calls _ _ _ _ _ := parse_spec he hg f (.lev 0 d) _ _ h1 h0 hr (by simp only [dep]; omega)
    refine (hp (by decide)).mono ?_
    rintro _ w1 ⟨⟨b, rfl, ht1, hr1⟩, hm1⟩
    have z1 := ps_sz f _ _ _ _ h1
    simp only [accSz] at z1
    refine .inl ⟨_, rfl, allocK fun w2 r2 s2 _ => ?_⟩
    have hr2 : PRow w2 g u := hr1.still s2
    refine (take1_spec (l := [[63]]) hr2 r2 (by have := hr1.lt; omega) (by decide) (by decide)).mono ?_
    rintro e w3 ⟨h3, hm3⟩
    have hm13 := mod_trans (mod_still hm1 s2) hm3
    have ht3 := PRow.tree hr2 (ht1.still s2) hm3
    by_cases ho : opAt u = [63]
    rotate_left
    · rw [if_neg (by simpa using ho)] at h3
      obtain ⟨rfl, hr3⟩ := h3
      rw [if_pos ho] at h2
      injection h2 with h2
      subst h2
      exact .inl ⟨_, rfl, bsel_of (fun _ => ⟨⟨_, rfl, ht3, hr3⟩, hm13⟩) (fun h => absurd h (by decide))⟩
    rw [if_pos (by simpa using ho)] at h3
    obtain ⟨rfl, hr3⟩ := h3
    rw [if_neg (fun e => e ho)] at h2
    have g1 := aft_len (s := u) (by rw [ho]; decide)
    refine .inl ⟨_, rfl, bsel_of (fun h => absurd (of_decide_eq_true h) (by rw [ho]; decide)) (fun _ => ?_)⟩
    rw [e1]
    have st3 := h0.box hg hm13
    rcases andR_some h2 with ⟨k, h4, rfl⟩ | ⟨a, v, h4, h5⟩
    · have hp : Calls _ _ _ _ _ := parse_spec he hg f (.expr (d + 1)) _ _ h4 st3 hr3 (by simp only [dep]; omega)
      refine hp.mono ?_
      rintro _ w4 ⟨rfl, hm4⟩
      exact .inr ⟨_, rfl, PPost.bad (mod_trans hm13 hm4)⟩
    have hp : Calls _ _ _ _ _ := parse_spec he hg f (.expr (d + 1)) _ _ h4 st3 hr3 (by simp only [dep]; omega)
    refine hp.mono ?_
    rintro _ w4 ⟨⟨b2, rfl, ht4, hr4⟩, hm4⟩
    have z2 := ps_sz f _ _ _ _ h4
    simp only [accSz] at z2
    have hm14 := mod_trans hm13 hm4
    have htc4 := PRow.tree hr3 ht3 hm4
    refine .inl ⟨_, rfl, allocK fun w5 r5 s5 _ => ?_⟩
    have hr5 : PRow w5 g v := hr4.still s5
    refine (take1_spec (l := [[58]]) hr5 r5 (by have := hr4.lt; omega) (by decide) (by decide)).mono ?_
    rintro e w6 ⟨h6, hm6⟩
    have hm16 := mod_trans (mod_still hm14 s5) hm6
    have htc6 := PRow.tree hr5 (htc4.still s5) hm6
    have hta6 := PRow.tree hr5 (ht4.still s5) hm6
    by_cases ho2 : opAt v = [58]
    rotate_left
    · rw [if_neg (by simpa using ho2)] at h6
      obtain ⟨rfl, hr6⟩ := h6
      rw [if_pos ho2] at h5
      injection h5 with h5
      subst h5
      refine .inl ⟨_, rfl, (want_spec _ 130).mono ?_⟩
      rintro _ w7 ⟨h7, rfl⟩
      rw [if_neg (by decide)] at h7
      subst h7
      exact .inr ⟨_, rfl, PPost.bad hm16⟩
    rw [if_pos (by simpa using ho2)] at h6
    obtain ⟨rfl, hr6⟩ := h6
    rw [if_neg (fun e => e ho2)] at h5
    have g2 := aft_len (s := v) (by rw [ho2]; decide)
    refine .inl ⟨_, rfl, (want_spec _ 130).mono ?_⟩
    rintro _ w7 ⟨h7, rfl⟩
    rw [if_pos (by rw [ho2]; decide)] at h7
    subst h7
    refine .inl ⟨rfl, ?_⟩
    have st6 := h0.box hg hm16
    rcases andR_some h5 with ⟨k, h8, rfl⟩ | ⟨x, y, h8, h9⟩
    · have hp : Calls _ _ _ _ _ := parse_spec he hg f (.cho (d + 1)) _ _ h8 st6 hr6 (by simp only [dep]; omega)
      refine hp.mono ?_
      rintro _ w8 ⟨rfl, hm8⟩
      exact .inr ⟨_, rfl, PPost.bad (mod_trans hm16 hm8)⟩
    injection h9 with h9
    subst h9
    have hp : Calls _ _ _ _ _ := parse_spec he hg f (.cho (d + 1)) _ _ h8 st6 hr6 (by simp only [dep]; omega)
    refine hp.mono ?_
    rintro _ w8 ⟨⟨b3, rfl, ht8, hr8⟩, hm8⟩
    refine .inl ⟨_, rfl, allocK fun w9 r9 s9 _ => allocK fun w10 r10 s10 _ => ⟨⟨_, rfl, ⟨_, b, b2, b3, r10, r9.still s10, (PRow.tree hr6 htc6 hm8).still (s9.trans s10), (PRow.tree hr6 hta6 hm8).still (s9.trans s10), ht8.still (s9.trans s10)⟩, hr8.still (s9.trans s10)⟩, mod_still (mod_trans hm16 hm8) (s9.trans s10)⟩⟩
  | f + 1, .lev l d, s, q, h, w, h0, hr, hd => by
    simp only [dep] at hd
    simp only [ps] at h
    intro hl
    refine arith_parser_level_calls _ _ _ _ _ ?_
    have e1 : IntKind.i64.wrap ((l : Int) + 1) = ((l + 1 : Nat) : Int) := by rw [wrap_i64 (by omega) (by omega)]; omega
    refine levels_spec.mono ?_
    rintro _ w1 ⟨b0, rfl, hb0, hs1⟩
    have hr1 : PRow w1 g s := hr.still hs1
    have st1 := h0.trans hs1
    refine .inl ⟨_, _, _, rfl, bsel_of (fun hx => ?_) (fun hx => ?_)⟩
    · have hx := of_decide_eq_true hx
      rw [if_pos (by omega)] at h
      have hp : Calls _ _ _ _ _ := parse_spec he hg f (.sig d) _ _ h st1 hr1 (by simp only [dep]; omega)
      refine hp.mono ?_
      rintro e w2 ⟨h2, hm2⟩
      have hmw := still_mod hs1 hm2
      cases q with
      | bad k => exact .inr ⟨_, h2, PPost.bad hmw⟩
      | ok p =>
        obtain ⟨b, h5, ht, hr4⟩ := h2
        exact .inl ⟨_, h5, ⟨_, rfl, ht, hr4⟩, hmw⟩
    have hx : l < 10 := by have := of_decide_eq_false hx; omega
    rw [if_neg (by omega)] at h
    rw [e1]
    rcases andR_some h with ⟨k, h3, rfl⟩ | ⟨a, u, h3, h4⟩
    · have hp : l + 1 ≤ 10 → Calls _ _ _ _ _ := parse_spec he hg f (.lev (l + 1) d) _ _ h3 st1 hr1 (by simp only [dep]; omega)
      refine (hp (by omega)).mono ?_
      rintro _ w2 ⟨rfl, hm2⟩
      exact .inr ⟨_, rfl, PPost.bad (still_mod hs1 hm2)⟩
    have hp : l + 1 ≤ 10 → Calls _ _ _ _ _ := parse_spec he hg f (.lev (l + 1) d) _ _ h3 st1 hr1 (by simp only [dep]; omega)
    refine (hp (by omega)).mono ?_
    rintro _ w3 ⟨⟨b, rfl, ht3, hr3⟩, hm3⟩
    have hmw3 := still_mod hs1 hm3
    have z3 := ps_sz f _ _ _ _ h3
    simp only [accSz] at z3
    refine .inl ⟨_, rfl, fun p w4 => ∃ (b : Nat) (a : Tm) (u : Txt) (f' : Nat), p = some ⟨b, 0, none⟩ ∧ f' ≤ f ∧ ps f' (.loop l d a) u = some q ∧ TreeAt w4 a b ∧ PRow w4 g u ∧ Mod (fun k => k = g) w w4 ∧ u.length ≤ s.length ∧ textLen g w4 = u.length, fun _ w4 => textLen g w4,
      ⟨b, a, u, f, rfl, Nat.le_refl _, h4, ht3, hr3, hmw3, by omega, textLen_row hr3⟩, ?_⟩
    rintro _ _ w4 ⟨b, a, u, f', rfl, hf', hps, ht4, hr4, hm4, hul, htl⟩
    cases f' with
    | zero => simp [ps] at hps
    | succ f' =>
    simp only [ps] at hps
    refine levels_spec.mono ?_
    rintro _ w5 ⟨b5, rfl, hb5, hs5⟩
    obtain ⟨c, n, hc, hlv, hn, hcs⟩ := hb5 l hx
    have hr5 : PRow w5 g u := hr4.still hs5
    refine .inl ⟨_, _, _, rfl, by omega, by omega, _, _, _, by rw [Int.toNat_natCast, Nat.mul_one, add_row, Nat.zero_add]; exact hc, ?_⟩
    refine (take_spec hr5 hlv (fun x hx => by injection hx with hx; rw [← hx]; show c ≠ g; have := hr4.lt; omega) (by omega) (fun e => lv_ne e rfl)).mono ?_
    rintro e w6 ⟨h6, hm6⟩
    have hm46 := mod_trans (mod_still (Mod.refl _ w4) hs5) hm6
    have hmw6 := mod_trans hm4 hm46
    have ht6 := PRow.tree hr5 (ht4.still hs5) hm6
    by_cases ho : opAt u ∈ lv l
    rotate_left
    · rw [if_neg ho] at h6 hps
      obtain ⟨rfl, hr6⟩ := h6
      injection hps with hps
      subst hps
      exact .inl ⟨_, rfl, bsel_of (fun _ => ⟨⟨_, rfl, ht6, hr6⟩, hmw6⟩) (fun h => absurd rfl (of_decide_eq_false h))⟩
    rw [if_pos ho] at h6 hps
    obtain ⟨rfl, hr6⟩ := h6
    have g1 := aft_len (lv_ne ho)
    refine .inl ⟨_, rfl, bsel_of (fun h => absurd (of_decide_eq_true h) (lv_ne ho)) (fun _ => ?_)⟩
    try rw [e1]
    have st6 := h0.box hg hmw6
    rcases andR_some hps with ⟨k, h7, rfl⟩ | ⟨y, v, h7, h8⟩
    · have hp : l + 1 ≤ 10 → Calls _ _ _ _ _ := parse_spec he hg f' (.lev (l + 1) d) _ _ h7 st6 hr6 (by simp only [dep]; omega)
      refine (hp (by omega)).mono ?_
      rintro _ w7 ⟨rfl, hm7⟩
      exact .inr ⟨_, rfl, PPost.bad (mod_trans hmw6 hm7)⟩
    have hp : l + 1 ≤ 10 → Calls _ _ _ _ _ := parse_spec he hg f' (.lev (l + 1) d) _ _ h7 st6 hr6 (by simp only [dep]; omega)
    refine (hp (by omega)).mono ?_
    rintro _ w7 ⟨⟨b7, rfl, ht7, hr7⟩, hm7⟩
    have z7 := ps_sz f' _ _ _ _ h7
    simp only [accSz] at z7
    refine .inl ⟨_, rfl, allocK fun w8 r8 s8 _ => allocK fun w9 r9 s9 _ => ?_⟩
    have s79 := s8.trans s9
    have hta := (PRow.tree hr6 ht6 hm7).still s79
    have hmw9 := mod_still (mod_trans hmw6 hm7) s79
    have hr9 : PRow w9 g v := hr7.still s79
    have go : ∀ {w10 : World} {k : Int}, Row w10 w8.heap.size 79 ⟨tcell k 0 (opAt u) [] (kids w7.heap.size 2)⟩ → k = binK (opAt u) → Mod (fun i => i = w8.heap.size) w9 w10 →
        (∃ (b : Nat) (a : Tm) (u : Txt) (f' : Nat), some (Addr.mk w8.heap.size 0 none) = some ⟨b, 0, none⟩ ∧ f' ≤ f ∧ ps f' (.loop l d a) u = some q ∧ TreeAt w10 a b ∧ PRow w10 g u ∧ Mod (fun k => k = g) w w10 ∧ u.length ≤ s.length ∧ textLen g w10 = u.length) ∧ textLen g w10 < textLen g w4 := by
      intro w10 k hr hk hm10
      subst hk
      have hs10 : Still w7 w10 := s79.box (by have := s8.size; omega) hm10
      have hr10 : PRow w10 g v := hr7.still hs10
      refine ⟨⟨_, .bin (opAt u) a y, v, f', rfl, by omega, h8, ⟨w7.heap.size, b, b7, hr, r8.still (s9.box (Nat.le_refl _) hm10), (PRow.tree hr6 ht6 hm7).still hs10, ht7.still hs10⟩, hr10, mod_still (mod_trans hmw6 hm7) hs10, by omega, textLen_row hr10⟩, by rw [textLen_row hr10, htl]; omega⟩
    refine bsel_of (fun h1 => ?_) (fun h1 => bsel_of (fun h2 => ?_) (fun h2 => ?_))
    · have h1 := of_decide_eq_true h1
      exact stK r9 (by simp) (by simp [Value.oneCell']) fun w10 hr10 hm10 _ => go hr10 (by unfold binK; rw [if_pos h1]) hm10
    · have h1 := of_decide_eq_false h1
      have h2 := of_decide_eq_true h2
      exact stK r9 (by simp) (by simp [Value.oneCell']) fun w10 hr10 hm10 _ => go hr10 (by unfold binK; rw [if_neg h1, if_pos h2]) hm10
    · have h1 := of_decide_eq_false h1
      have h2 := of_decide_eq_false h2
      exact go r9 (by unfold binK; rw [if_neg h1, if_neg h2]) (Mod.refl _ _)
  | f + 1, .loop l d a, s, q, h, w, h0, hr, hd => by
    trivial
  | f + 1, .sig d, s, q, h, w, h0, hr, hd => by
    simp only [dep] at hd
    simp only [ps] at h
    show Calls _ _ _ _ _
    refine arith_parser_signed_calls _ _ _ _ ?_
    have e1 : IntKind.i64.wrap ((d : Int) + 1) = ((d + 1 : Nat) : Int) := by rw [wrap_i64 (by omega) (by omega)]; omega
    refine (want_spec (decide ((d : Int) ≤ 30)) 2).mono ?_
    rintro _ w1 ⟨h1, rfl⟩
    split at h
    · rename_i h30
      injection h with h
      rw [decide_eq_false (by omega), if_neg (by decide)] at h1
      subst h1 h
      exact .inr ⟨_, rfl, PPost.bad (Mod.refl _ _)⟩
    rename_i h30
    rw [decide_eq_true (by omega), if_pos rfl] at h1
    subst h1
    refine .inl ⟨rfl, allocK fun w2 r2 s2 _ => ?_⟩
    have hr2 : PRow w2 g s := hr.still s2
    refine (take1_spec (l := sgnOps) hr2 r2 (by have := hr.lt; omega) (by decide) (by decide)).mono ?_
    rintro e w3 ⟨h3, hm3⟩
    have hmw3 := still_mod s2 hm3
    have st3 := h0.box hg hmw3
    by_cases ho : opAt s ∈ sgnOps
    · rw [if_pos ho] at h3 h
      obtain ⟨rfl, hr3⟩ := h3
      have g1 := aft_len (sgn_ne ho)
      refine .inl ⟨_, rfl, bsel_of (fun _ => ?_) (fun h => absurd (nd h) (sgn_ne ho))⟩
      rw [e1]
      rcases andR_some h with ⟨k, h4, rfl⟩ | ⟨t, v, h4, h5⟩
      · have hp : Calls _ _ _ _ _ := parse_spec he hg f (.sig (d + 1)) _ _ h4 st3 hr3 (by simp only [dep]; omega)
        refine hp.mono ?_
        rintro _ w4 ⟨rfl, hm4⟩
        exact .inr ⟨_, rfl, PPost.bad (mod_trans hmw3 hm4)⟩
      injection h5 with h5
      subst h5
      have hp : Calls _ _ _ _ _ := parse_spec he hg f (.sig (d + 1)) _ _ h4 st3 hr3 (by simp only [dep]; omega)
      refine hp.mono ?_
      rintro _ w4 ⟨⟨b, rfl, ht4, hr4⟩, hm4⟩
      exact .inl ⟨_, rfl, allocK fun w5 r5 s5 _ => allocK fun w6 r6 s6 _ => ⟨⟨_, rfl, ⟨_, b, r6, r5.still s6, ht4.still (s5.trans s6)⟩, hr4.still (s5.trans s6)⟩, mod_still (mod_trans hmw3 hm4) (s5.trans s6)⟩⟩
    rw [if_neg ho] at h3 h
    obtain ⟨rfl, hr3⟩ := h3
    refine .inl ⟨_, rfl, bsel_of (fun h => absurd h (by decide)) (fun _ => allocK fun w7 r7 s7 _ => ?_)⟩
    have hr7 : PRow w7 g (trim s) := hr3.still s7
    refine (take1_spec (l := [[40]]) hr7 r7 (by have := hr3.lt; omega) (by decide) (by decide)).mono ?_
    rintro e w8 ⟨h8, hm8⟩
    rw [opAt_trim, aft_trim, trim_trim] at h8
    have hmw8 := mod_trans (mod_still hmw3 s7) hm8
    have st8 := h0.box hg hmw8
    by_cases hp40 : opAt s = [40]
    · rw [if_pos (by simpa using hp40)] at h8
      rw [if_pos hp40] at h
      obtain ⟨rfl, hr8⟩ := h8
      have g1 := aft_len (s := s) (by rw [hp40]; decide)
      refine .inl ⟨_, rfl, bsel_of (fun _ => ?_) (fun h => absurd (nd h) (by rw [hp40]; decide))⟩
      rw [e1]
      rcases andR_some h with ⟨k, h4, rfl⟩ | ⟨t, v, h4, h5⟩
      · have hp : Calls _ _ _ _ _ := parse_spec he hg f (.expr (d + 1)) _ _ h4 st8 hr8 (by simp only [dep]; omega)
        refine hp.mono ?_
        rintro _ w4 ⟨rfl, hm4⟩
        exact .inr ⟨_, rfl, PPost.bad (mod_trans hmw8 hm4)⟩
      have hp : Calls _ _ _ _ _ := parse_spec he hg f (.expr (d + 1)) _ _ h4 st8 hr8 (by simp only [dep]; omega)
      refine hp.mono ?_
      rintro _ w9 ⟨⟨b, rfl, ht9, hr9⟩, hm9⟩
      have hmw9 := mod_trans hmw8 hm9
      refine .inl ⟨_, rfl, allocK fun w10 r10 s10 _ => ?_⟩
      have hr10 : PRow w10 g v := hr9.still s10
      refine (take1_spec (l := [[41]]) hr10 r10 (by have := hr9.lt; omega) (by decide) (by decide)).mono ?_
      rintro e w11 ⟨h11, hm11⟩
      have hmw11 := mod_trans (mod_still hmw9 s10) hm11
      have ht11 := PRow.tree hr10 (ht9.still s10) hm11
      by_cases ho2 : opAt v = [41]
      · rw [if_pos (by simpa using ho2)] at h11
        obtain ⟨rfl, hr11⟩ := h11
        rw [if_neg (fun e => e ho2)] at h5
        injection h5 with h5
        subst h5
        refine .inl ⟨_, rfl, (want_spec _ 130).mono ?_⟩
        rintro _ w12 ⟨h12, rfl⟩
        rw [if_pos (by rw [ho2]; decide)] at h12
        subst h12
        exact .inl ⟨rfl, ⟨_, rfl, ht11, hr11⟩, hmw11⟩
      · rw [if_neg (by simpa using ho2)] at h11
        obtain ⟨rfl, hr11⟩ := h11
        rw [if_pos ho2] at h5
        injection h5 with h5
        subst h5
        refine .inl ⟨_, rfl, (want_spec _ 130).mono ?_⟩
        rintro _ w12 ⟨h12, rfl⟩
        rw [if_neg (by decide)] at h12
        subst h12
        exact .inr ⟨_, rfl, PPost.bad hmw11⟩
    rw [if_neg (by simpa using hp40)] at h8
    rw [if_neg hp40] at h
    obtain ⟨rfl, hr8⟩ := h8
    injection h with h
    refine .inl ⟨_, rfl, bsel_of (fun h => absurd h (by decide)) (fun _ => ?_)⟩
    have htl := trim_len s
    have hwn := wordN_le (trim s)
    have cell : ∀ wq : World, Still w8 wq → wq.cell? ⟨g, 0, none⟩ = some (.string (S (trim s))) := fun wq hq => (hr8.still hq).lget rfl
    refine ⟨fun wq => Still w8 wq, (Still.refl _).toDrew, trim s, cell, trim s, cell, trim s, cell, ?_⟩
    refine (trimLeft_spec (trim s) alS (by decide) (by decide)).mono ?_
    rintro _ w13 ⟨rfl, hs13⟩
    have hst13 := (Still.refl w8).toDrew.trans hs13
    have hr13 : PRow w13 g (trim s) := hr8.still hst13
    rw [drop_word]
    have ek : IntKind.i64.wrap (((trim s).length : Int) - (((trim s).drop (wordN (trim s))).length : Int)) = (wordN (trim s) : Int) := by
      rw [List.length_drop, wrap_i64 (by omega) (by omega)]
      omega
    have hlt : ((trim s).take (wordN (trim s))).length = wordN (trim s) := by rw [List.length_take]; omega
    refine .inl ⟨_, rfl, hst13, ?_⟩
    rw [ek, Int.toNat_natCast, hlt, Int.toNat_natCast]
    refine ⟨by omega, by omega, trim s, hr13.lget rfl, by omega, by omega, stK hr13 (by simp) (by simp [Value.oneCell']) fun w14 hr14 hm14 _ => ?_⟩
    have hmw14 := mod_trans (mod_still hmw8 hst13) hm14
    refine (isName_spec ((trim s).take (wordN (trim s))) (by omega)).mono ?_
    rintro _ w15 ⟨rfl, hs15⟩
    have hr15 : PRow w15 g ((trim s).drop (wordN (trim s))) := Row.still hr14 hs15
    have hmw15 := mod_still hmw14 hs15
    subst h
    unfold prim
    dsimp only
    refine .inl ⟨_, rfl, ?_⟩
    cases hn : isName ((trim s).take (wordN (trim s))) with
    | true =>
      refine bsel_of (fun _ => allocK fun w16 r16 s16 _ => ?_) (fun h => by cases h)
      rw [if_pos rfl]
      exact ⟨⟨_, rfl, r16, hr15.still s16⟩, mod_still hmw15 s16⟩
    | false =>
      refine bsel_of (fun h => by cases h) (fun _ => ?_)
      rw [if_neg (by decide)]
      refine (value_spec (he.still (h0.box hg hmw15)) _ (by omega)).mono ?_
      rintro _ w17 ⟨⟨m, ok, rfl, hm, hv⟩, hs17⟩
      have hmw17 := mod_still hmw15 hs17
      refine .inl ⟨_, _, rfl, ?_⟩
      cases hnv : numV ((trim s).take (wordN (trim s))) with
      | none =>
        rw [hnv] at hv
        subst hv
        refine bsel_of (fun h => by cases h) (fun _ => (want_spec false 130).mono ?_)
        rintro _ w18 ⟨h18, rfl⟩
        rw [if_neg (by decide)] at h18
        subst h18
        exact .inr ⟨_, rfl, rfl, hmw17⟩
      | some n =>
        rw [hnv] at hv
        obtain ⟨rfl, rfl⟩ := hv
        have hne : (trim s).take (wordN (trim s)) ≠ [] := by
          intro e
          rw [e] at hnv
          have : numV [] = none := rfl
          rw [this] at hnv
          cases hnv
        refine bsel_of (fun _ => (want_spec _ 130).mono ?_) (fun h => by cases h)
        rintro _ w18 ⟨h18, rfl⟩
        rw [decide_eq_false hne, if_pos (by decide)] at h18
        subst h18
        exact .inl ⟨rfl, allocK fun w19 r19 s19 _ => ⟨⟨_, rfl, r19, (hr15.still hs17).still s19⟩, mod_still hmw17 s19⟩⟩
termination_by f => f
end Go.Proofs.YtgincpkggnndeaaGreatDoor
