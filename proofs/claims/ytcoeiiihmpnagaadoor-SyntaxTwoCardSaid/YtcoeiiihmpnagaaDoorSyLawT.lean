/- Scripts: the laws of two scripts, and of line ends, at the walk's level. Conditions: as each theorem names them. -/
import Derived.Test.YtcoeiiihmpnagaaDoorSyLaw
import Derived.Test.YtcoeiiihmpnagaaDoorSyLoc
namespace Go.Proofs.YtcoeiiihmpnagaaDoor
open Go.RowKit Vc
variable {w : World}

theorem ph_len : ∀ x ∈ ph09, x.length ≤ 40 := by decide
/-- The cells of a list's things. -/
theorem Enc.At.cells {α : Type} {e : Enc α} {F : Nat → Prop} {l : List α} {p : Option Addr} {n c : Nat} (h : e.At w F l (.slice p n c)) : ∃ xs, e.Cs w F l xs ∧ (0 < n → ∃ a, p = some a ∧ ∀ (j : Nat) (u : Value), xs[j]? = some u → w.cell? (a.add j) = some u) := by
  obtain ⟨p', c', he, hle, hne⟩ := h
  injection he with e1 e2 e3
  subst e1 e2 e3
  by_cases hl : l = []
  · subst hl
    exact ⟨[], rfl, fun h => absurd h (by simp)⟩
  · obtain ⟨b, xs, hb, _, hc, hat⟩ := hne hl
    exact ⟨xs, hc, fun _ => ⟨b, hb, hat⟩⟩
theorem NdE.kids {F : Nat → Prop} {x : Nd} {vw va vr vo vk : Value} (h : NdE w F x (ncell x vw va vr vo vk)) : ndE.At w F x.ks vk := by
  obtain ⟨vw', va', vr', vo', vk', he, _, _, _, _, h5⟩ := h.out
  have e : vk = vk' := Option.some.inj (congrArg (fun l : List Value => l[7]?) he)
  rw [e]
  exact h5
theorem ends_two {s t : Txt} {a b : Nd} (hs : s.length + 1 + t.length ≤ 20000) (h1 : (parseR s).2 = 0) (h2 : (parseR t).2 = 0) : parseR (s ++ [10] ++ t) = (listN ((parseR s).1.ks ++ (parseR t).1.ks), 0) := by
  obtain ⟨_, l, hl, hx⟩ := parseR_ok h1
  obtain ⟨_, k, hk, hy⟩ := parseR_ok h2
  refine parseR_of (by simp only [List.length_append, List.length_cons, List.length_nil]; omega) (toks_line s t hl hk) ?_
  rw [List.append_assoc]
  exact script_two hx hy
theorem ends_lines {s : Txt} (hs : s.length ≤ 500) (h1 : (parseR s).2 = 0) : parseR ([10, 32, 35, 32, 120, 32, 40, 32, 10] ++ s ++ [10, 10, 35, 32, 39]) = ((parseR s).1, 0) := by
  obtain ⟨_, l, hl, hx⟩ := parseR_ok h1
  have e1 : toks (s ++ [10, 10, 35, 32, 39]) = some (l ++ [lineT, lineT]) := by
    rw [toks_app (y := [10, 10, 35, 32, 39]) rfl (.inl rfl) rfl _ s (Nat.le_refl _) l hl]
    rfl
  refine parseR_of (l := [lineT, lineT] ++ l ++ [lineT, lineT]) (by simp only [List.length_append, List.length_cons, List.length_nil]; omega) ?_ (script_lines hx)
  rw [List.append_assoc]
  show toks (10 :: 32 :: 35 :: 32 :: 120 :: 32 :: 40 :: 32 :: 10 :: (s ++ [10, 10, 35, 32, 39])) = _
  rw [toks_one (l := [lineT]) (t := 32 :: 35 :: 32 :: 120 :: 32 :: 40 :: 32 :: 10 :: (s ++ [10, 10, 35, 32, 39])) rfl, toks_one (l := []) (t := 35 :: 32 :: 120 :: 32 :: 40 :: 32 :: 10 :: (s ++ [10, 10, 35, 32, 39])) rfl, toks_one (l := []) (t := 10 :: (s ++ [10, 10, 35, 32, 39])) rfl, toks_one (l := [lineT]) (t := s ++ [10, 10, 35, 32, 39]) rfl, e1]
  rfl
theorem SyntaxTwo_spec {l m : Option Addr} {lL lC mL mC : Nat} {vs us : List Nat} (hl : U8At w l lL vs) (hm : U8At w m mL us) (raw : Txt) (pick : Bool) : Calls Tryd.prog fn_law09_SyntaxTwo #[.slice l lL lC, .slice m mL mC, .string (S raw), .bool pick] w (fun e w' => e = .returned (.bool true) ∧ Still w w') := by
  refine law09_SyntaxTwo_calls _ _ _ _ _ _ _ _ _ _ ?_
  refine awake_spec.mono ?_
  rintro _ w1 ⟨rfl, s1⟩
  refine .inl ⟨_, rfl, bsel_of (fun h => by cases h) (fun _ => Phrases_spec.mono ?_)⟩
  rintro _ w2 ⟨q, rfl, hq, s2⟩
  refine .inl ⟨_, _, _, rfl, (pieces_spec (sg := ph09) ((hl.still s1).still s2) hq (by decide) (by decide) (fun x hx => Nat.le_trans (ph_len x hx) (by decide))).mono ?_⟩
  have hls := piecesR_len (sg := ph09) (M := 40) ph_len vs
  generalize piecesR ph09 vs = s at *
  rintro _ w3 ⟨rfl, rfl⟩
  refine .inl ⟨_, rfl, Phrases_spec.mono ?_⟩
  rintro _ w4 ⟨q4, rfl, hq4, s4⟩
  refine .inl ⟨_, _, _, rfl, (pieces_spec (sg := ph09) (((hm.still s1).still s2).still s4) hq4 (by decide) (by decide) (fun x hx => Nat.le_trans (ph_len x hx) (by decide))).mono ?_⟩
  rintro _ w5 ⟨rfl, rfl⟩
  have s05 := (s1.trans s2).trans s4
  refine .inl ⟨_, rfl, fun t w6 => Still w w6, by cases pick <;> exact s05, ?_⟩
  rintro t _ w6 s6
  refine bsel_of (fun _ => ⟨rfl, s6⟩) (fun ht => ?_)
  have ht : t.length ≤ 500 := by have := of_decide_eq_false ht; omega
  refine (parse_got s).mono ?_
  rintro _ w7 ⟨pw7, cw7, pa7, ca7, pr7, cr7, po7, co7, pk7, ck7, rfl, n7, s7⟩
  refine .inl ⟨_, _, _, _, _, _, _, _, _, _, _, _, _, _, _, _, _, _, _, rfl, boxK rfl (by simp [Value.oneCell']) fun w9 r9 s9 z9 => (parse_got t).mono ?_⟩
  rintro _ w10 ⟨pw10, cw10, pa10, ca10, pr10, cr10, po10, co10, pk10, ck10, rfl, n10, s10⟩
  refine .inl ⟨_, _, _, _, _, _, _, _, _, _, _, _, _, _, _, _, _, _, _, rfl, boxK rfl (by simp [Value.oneCell']) fun w12 r12 s12 z12 => ?_⟩
  have sA := ((s9.trans s10).trans s12)
  have s012 : Still w w12 := (s6.trans s7).trans sA
  have r9 := (r9.still s10).still s12
  have n7 := n7.still sA
  have n10 := n10.still s12
  have hwa := parseR_wt s
  have hwb := parseR_wt t
  have zz7 := s7.size
  have zz10 := s10.size
  refine ⟨fun w15 => w15 = w12 ∧ (parseR s).2 = 0 ∧ (parseR t).2 = 0, ⟨fun b w13 => w13 = w12 ∧ (b = false → (parseR s).2 = 0 ∧ (parseR t).2 = 0), bsel_of (fun h => ⟨rfl, fun h => (by cases h)⟩) (fun h => ⟨rfl, fun h2 => ⟨nf h, nf h2⟩⟩), ?_⟩, ?_⟩
  · rintro b _ w13 ⟨rfl, hb⟩
    refine bsel_of (fun _ => bsel_of (fun _ => bsel_of (fun _ => ⟨rfl, s012⟩) (fun h => ?_)) (fun h => by cases h)) (fun h => ⟨rfl, hb h⟩)
    have hne : (parseR s).2 ≠ 0 := of_decide_eq_false h
    rw [parseR_bad hne] at r9 n7
    refine ⟨_, _, _, _, _, _, _, _, _, _, _, _, _, _, _, _, _, _, r9.lget rfl, r9.lget rfl, r9.lget rfl, r9.lget rfl, r9.lget rfl, r9.lget rfl, r9.lget rfl, r9.lget rfl, (sameN_true n7 (zero_nde w13 (fun _ => True)) (by decide)).mono ?_⟩
    rintro _ w14 ⟨rfl, s14⟩
    exact .inl ⟨_, rfl, rfl, s012.trans s14⟩
  rintro _ w15 ⟨rfl, ea, eb⟩
  have htwo := ends_two (s := s) (t := t) (a := nd0) (b := nd0) (by omega) ea eb
  have ewa := (parseR s).1.wt_eq
  have ewb := (parseR t).1.wt_eq
  have lwa := wtNs_len (parseR s).1.ks
  have lwb := wtNs_len (parseR t).1.ks
  generalize hX : (parseR s).1 = X at *
  generalize hY : (parseR t).1 = Y at *
  refine allocK fun w16 r16 s16 z16 => stK r16 (by simp) (by simp [Value.oneCell']) fun w17 r17 m17 z17 => ?_
  have q17 : Still w15 w17 := Mod.trans s16 m17 (fun _ h => h) (fun i hi e => by omega)
  have r17 : Row w17 w15.heap.size 32 ⟨ncell (.mk 3 false [] [] [] [] [] []) (.slice none 0 0) (.slice none 0 0) (.slice none 0 0) (.slice none 0 0) (.slice none 0 0)⟩ := r17
  have n7 := n7.still q17
  have kx := n7.kids
  have n10 := n10.still q17
  have ky := n10.kids
  have r9 := r9.still q17
  have r12 := r12.still q17
  obtain ⟨xs1, hc1, hat1⟩ := kx.cells
  obtain ⟨xs2, hc2, hat2⟩ := ky.cells
  refine ⟨none, 0, 0, r17.lget rfl, _, _, _, r9.lget rfl, appK_push (B := w17.heap.size) (Owns.nil _ _ _ _) (Nat.le_refl _) xs1 hc1.len hc1.one hat1 (by omega) (by omega) fun p' c' w18 ho18 m18 _ => ?_⟩
  have q18 : Still w17 w18 := Mod.trans (Still.refl w17) m18 (fun _ h => h) (fun _ _ h => by cases h)
  refine stK (r17.still q18) (by simp) (by simp [Value.oneCell']) fun w19 r19 m19 z19 => ?_
  have q1819 : ∀ k, k = w15.heap.size → w15.heap.size ≤ k := fun k h => by omega
  have zz18 := q18.size
  have low : ∀ {g : Nat} {t : TypeId} {ob : List Value}, Row w17 g t ⟨ob⟩ → g < w15.heap.size → Row w19 g t ⟨ob⟩ := fun h hg => (h.still q18).mod m19 (by omega)
  have b19 := low r12 (by omega)
  have hc2' : ndE.Cs w19 (fun k => k < w15.heap.size) Y.ks xs2 := (hc2.turn (G := fun k => k < w15.heap.size) (fun k hk => by have h2 : k < w10.heap.size := hk.2; show k < w15.heap.size; omega) fun a v ⟨k, hk, ea⟩ hcell => mod_cell m19 (by rw [ea]; have h2 : k < w10.heap.size := hk.2; omega) (q18.cell hcell))
  have hc1' : ndE.Cs w19 (fun k => k < w15.heap.size) X.ks xs1 := (hc1.turn (G := fun k => k < w15.heap.size) (fun k hk => by have h2 : k < w7.heap.size := hk.2; show k < w15.heap.size; omega) fun a v ⟨k, hk, ea⟩ hcell => mod_cell m19 (by rw [ea]; have h2 : k < w7.heap.size := hk.2; omega) (q18.cell hcell))
  have hat2' : 0 < Y.ks.length → ∃ a, pk10 = some a ∧ ∀ (j : Nat) (u : Value), xs2[j]? = some u → w19.cell? (a.add j) = some u := fun h0 => by
    obtain ⟨p', c', he, _, hne⟩ := ky
    injection he with e1 e2 e3
    obtain ⟨b, xs, hb, hF, _, _⟩ := hne (fun h => by rw [h] at h0; exact absurd h0 (by simp))
    obtain ⟨a, ha, hca⟩ := hat2 h0
    have hab : a = b := Option.some.inj (ha.symm.trans (e1.trans hb))
    refine ⟨a, ha, fun j u hu => mod_cell m19 ?_ (q18.cell (hca j u hu))⟩
    rw [add_block, hab]
    have h2 : b.block < w10.heap.size := hF.2
    omega
  have ho19 := ho18.mod m19 (fun k hk (e : k = w15.heap.size) => by have := (ho18.lt k hk).1; omega)
  rw [Nat.zero_add] at ho19 r19
  have r19 : Row w19 w15.heap.size 32 ⟨ncell (.mk 3 false [] [] [] [] [] []) (.slice none 0 0) (.slice none 0 0) (.slice none 0 0) (.slice none 0 0) (.slice p' X.ks.length c')⟩ := r19
  refine ⟨_, _, _, r19.lget rfl, _, _, _, b19.lget rfl, ?_⟩
  have zz19 := m19.size
  refine appK_push (B := w17.heap.size) ho19 (by omega) xs2 hc2'.len hc2'.one hat2' (by omega) (by omega) fun p2 c2 w20 ho20 m20 _ => ?_
  have nown : ∀ k, k < w17.heap.size → ¬ (Value.slice p' X.ks.length c').ownBlock = some k := fun k hk h => by
    have := (ho19.lt k h).1
    omega
  have zz20 := m20.size
  refine stK (r19.mod m20 (nown _ (by omega))) (by simp) (by simp [Value.oneCell']) fun w21 r21 m21 z21 => ?_
  have hc3 : ndE.Cs w21 (fun k => k < w15.heap.size) (X.ks ++ Y.ks) (([] ++ xs1) ++ xs2) := by
    refine Enc.Cs.turn (w := w19) (fun k hk => hk) (fun a v ⟨k, hk, ea⟩ hcell => mod_cell m21 ?_ (mod_cell m20 ?_ hcell)) (Enc.Cs.append hc1' hc2')
    · have hk : k < w15.heap.size := hk
      rw [ea]
      omega
    · have hk : k < w15.heap.size := hk
      rw [ea]
      exact nown k (by omega)
  have ho21 := ho20.mod m21 (fun k hk (e : k = w15.heap.size) => by have := (ho20.lt k hk).1; omega)
  have hk21 : ndE.At w21 (fun _ => True) (X.ks ++ Y.ks) (.slice p2 (X.ks ++ Y.ks).length c2) := by
    rw [List.length_append]
    obtain ⟨p', c', he, hle⟩ := ho21.cap
    injection he with e1 e2 e3
    subst e1 e3
    refine ⟨_, _, by rw [List.length_append], by rw [List.length_append]; exact hle, fun hne => ?_⟩
    have hn : 0 < X.ks.length + Y.ks.length := by rw [← List.length_append]; exact List.length_pos_iff.2 hne
    obtain ⟨g, cap, he, _, _, _, hcell⟩ := ho21.ownAddr hn
    injection he with e1 _ _
    subst e1
    exact ⟨_, _, rfl, trivial, hc3.turn (fun _ _ => trivial) (fun _ _ _ h => h), fun j u hu => by rw [add_row, Nat.zero_add]; exact hcell j u hu⟩
  have hwant : NdE w21 (fun _ => True) (listN (X.ks ++ Y.ks)) _ := NdE.of (x := listN (X.ks ++ Y.ks)) (Enc.At.nil _ _ _ none 0) (Enc.At.nil _ _ _ none 0) (Enc.At.nil _ _ _ none 0) (Enc.At.nil _ _ _ none 0) hk21
  have hw15 := s012.size
  have s21 : Still w w21 := by
    refine Mod.trans (Mod.trans (Mod.trans (s012.trans (q17.trans q18)) m19 (fun _ h => h) (fun i hi e => ?_)) m20 (fun _ h => h) (fun i hi e => nown i (by omega) e)) m21 (fun _ h => h) (fun i hi e => ?_)
    · have := s012.size; omega
    · have := s012.size; omega
  have r21 : Row w21 w15.heap.size 32 ⟨ncell (listN (X.ks ++ Y.ks)) (.slice none 0 0) (.slice none 0 0) (.slice none 0 0) (.slice none 0 0) (.slice p2 (X.ks ++ Y.ks).length c2)⟩ := by
    rw [List.length_append]
    exact r21
  refine ⟨by simp only [List.length_cons, List.length_nil]; omega, by simp only [List.length_append, List.length_cons, List.length_nil]; omega, ?_⟩
  have h22 := parse_got (w := w21) (s ++ [10] ++ t)
  rw [htwo] at h22
  refine h22.mono ?_
  rintro _ w22 ⟨pw22, cw22, pa22, ca22, pr22, cr22, po22, co22, pk22, ck22, rfl, n22, s22⟩
  refine .inl ⟨_, _, _, _, _, _, _, _, _, _, _, _, _, _, _, _, _, _, _, rfl, boxK rfl (by simp [Value.oneCell']) fun w24 r24 s24 z24 => bsel_of (fun _ => bsel_of (fun _ => ?_) (fun h => by cases h)) (fun h => by cases h)⟩
  have r21 := (r21.still s22).still s24
  have n21 := (hwant.still s22).still s24
  have n22 := n22.still s24
  have hww := listN_wt (X.ks ++ Y.ks)
  rw [wtNs_append] at hww
  refine ⟨_, _, _, _, _, _, _, _, _, _, _, _, _, _, _, _, _, _, r24.lget rfl, r24.lget rfl, r24.lget rfl, r24.lget rfl, r24.lget rfl, r24.lget rfl, r24.lget rfl, r24.lget rfl, _, _, _, _, _, _, _, _, _, _, _, _, _, _, _, _, _, _, r21.lget rfl, r21.lget rfl, r21.lget rfl, r21.lget rfl, r21.lget rfl, r21.lget rfl, r21.lget rfl, r21.lget rfl, (sameN_true (x := listN (X.ks ++ Y.ks)) n22 n21 (by omega)).mono ?_⟩
  rintro _ w25 ⟨rfl, s25⟩
  exact .inl ⟨_, rfl, rfl, ((s21.trans s22).trans s24).trans s25⟩
theorem SyntaxLines_spec {l : Option Addr} {lL lC : Nat} {vs : List Nat} (hl : U8At w l lL vs) (raw : Txt) (pick : Bool) : Calls Tryd.prog fn_law09_SyntaxLines #[.slice l lL lC, .string (S raw), .bool pick] w (fun e w' => e = .returned (.bool true) ∧ Still w w') := by
  refine law09_SyntaxLines_calls _ _ _ _ _ _ _ ?_
  refine awake_spec.mono ?_
  rintro _ w1 ⟨rfl, s1⟩
  refine .inl ⟨_, rfl, bsel_of (fun h => by cases h) (fun _ => Phrases_spec.mono ?_)⟩
  rintro _ w2 ⟨q, rfl, hq, s2⟩
  refine .inl ⟨_, _, _, rfl, (pieces_spec (sg := ph09) ((hl.still s1).still s2) hq (by decide) (by decide) (fun x hx => Nat.le_trans (ph_len x hx) (by decide))).mono ?_⟩
  rintro _ w3 ⟨rfl, rfl⟩
  have s03 := s1.trans s2
  refine .inl ⟨_, rfl, fun s w4 => Still w w4, by cases pick <;> exact s03, ?_⟩
  rintro s _ w4 s4
  refine bsel_of (fun _ => ⟨rfl, s4⟩) (fun ht => ?_)
  have ht : s.length ≤ 500 := by have := of_decide_eq_false ht; omega
  refine (parse_got s).mono ?_
  rintro _ w5 ⟨pw5, cw5, pa5, ca5, pr5, cr5, po5, co5, pk5, ck5, rfl, n5, s5⟩
  refine .inl ⟨_, _, _, _, _, _, _, _, _, _, _, _, _, _, _, _, _, _, _, rfl, boxK rfl (by simp [Value.oneCell']) fun w7 r7 s7 z7 => ?_⟩
  refine ⟨by simp only [List.length_cons, List.length_nil]; omega, by simp only [List.length_append, List.length_cons, List.length_nil]; omega, (parse_got _).mono ?_⟩
  rintro _ w8 ⟨pw8, cw8, pa8, ca8, pr8, cr8, po8, co8, pk8, ck8, rfl, n8, s8⟩
  refine .inl ⟨_, _, _, _, _, _, _, _, _, _, _, _, _, _, _, _, _, _, _, rfl, boxK rfl (by simp [Value.oneCell']) fun w10 r10 s10 z10 => ?_⟩
  have s010 := (((s4.trans s5).trans s7).trans s8).trans s10
  refine bsel_of (fun _ => bsel_of (fun _ => ⟨rfl, s010⟩) (fun h => ?_)) (fun h => by cases h)
  have h0 : (parseR s).2 = 0 := nf h
  have hb := ends_lines ht h0
  have n5 := ((n5.still s7).still s8).still s10
  have r7 := (r7.still s8).still s10
  have n8 := n8.still s10
  have hwt := parseR_wt s
  rw [hb] at r10 n8 ⊢
  refine bsel_of (fun _ => ?_) (fun h => absurd rfl (of_decide_eq_false h))
  refine ⟨_, _, _, _, _, _, _, _, _, _, _, _, _, _, _, _, _, _, r7.lget rfl, r7.lget rfl, r7.lget rfl, r7.lget rfl, r7.lget rfl, r7.lget rfl, r7.lget rfl, r7.lget rfl, _, _, _, _, _, _, _, _, _, _, _, _, _, _, _, _, _, _, r10.lget rfl, r10.lget rfl, r10.lget rfl, r10.lget rfl, r10.lget rfl, r10.lget rfl, r10.lget rfl, r10.lget rfl, (sameN_true n5 n8 (by omega)).mono ?_⟩
  rintro _ w11 ⟨rfl, s11⟩
  exact .inl ⟨_, rfl, rfl, s010.trans s11⟩
end Go.Proofs.YtcoeiiihmpnagaaDoor
