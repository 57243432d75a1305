/- The program's parser of scripts: words, redirections, assignments. Conditions: few tokens, each of few bytes. -/
import Derived.Test.YtcoeiiihmpnagaaDoorM5
import Derived.Test.YtcoeiiihmpnagaaDoorWdParse
namespace Go.Proofs.YtcoeiiihmpnagaaDoor
open Go.RowKit Vc
variable {w : World}

theorem Only.tr {g : Nat} {a b c : World} (h : Only g a b) (k : Only g b c) : Only g a c := Mod.trans h k (fun _ h => h) (fun _ _ h => h)
/-- A word is read so. -/
def SyW (w : World) (g : Nat) (r : Rs (List Pt × Ts)) (e : Ending) (w' : World) : Prop := Only g w w' ∧ match r with
  | .ok x => ∃ v, e = .returned v ∧ SlAt w' (fun k => w.heap.size ≤ k ∧ k < w'.heap.size) x.1 v ∧ Pz w' g x.2
  | .bad k => e = .panicked (errP k)
theorem parts_spec {g : Nat} {s : Ts} (h : Pz w g s) (hb : TB s) : Calls Tryd.prog fn_syntax_parser_parts #[.pointer (some ⟨g, 0, none⟩)] w (SyW w g (partsF s)) := by
  refine syntax_parser_parts_calls _ _ _ ?_
  refine (peek_spec h 0).mono ?_
  rintro _ w1 ⟨rfl, s1⟩
  refine .inl ⟨_, _, rfl, wantK (fun hk => ?_) (fun hk => ⟨s1.only, ?_⟩)⟩
  · have hk := of_decide_eq_true hk
    obtain ⟨k, t, r, rfl⟩ : ∃ k t r, s = (k, t) :: r := by
      cases s with
      | nil => exact absurd hk (by decide)
      | cons x r => exact ⟨x.1, x.2, r, rfl⟩
    have hk : (k : Int) = 0 := hk
    obtain rfl : k = 0 := by omega
    refine (next_spec (h.still s1)).mono ?_
    rintro _ w2 ⟨rfl, o2, h2⟩
    have o12 : Only g w w2 := s1.only.tr o2
    have hz := s1.size
    have hz2 := o2.size
    refine .inl ⟨_, _, rfl, (Parse_spec t hb.head.1).mono ?_⟩
    rintro e3 w3 ⟨hp, s3⟩
    have hpf : partsF ((0, t) :: r) = (wpL 30 t).and fun l => .ok (l, r) := rfl
    cases hw : wpL 30 t with
    | bad j =>
      rw [hw] at hp
      have hj : j ≠ 0 := fun e => wpL_nz 30 t (by rw [hw, e])
      refine .inl ⟨_, _, _, _, hp, (sfail_spec j).mono ?_⟩
      rintro _ w4 ⟨rfl, rfl⟩
      rw [if_neg hj]
      refine .inr ⟨_, rfl, o12.tr s3.only, ?_⟩
      rw [hpf, hw]
      rfl
    | ok l =>
      rw [hw] at hp
      obtain ⟨v, rfl, hsl⟩ := hp
      obtain ⟨p, c, rfl⟩ := hsl.form
      have hf := sfail_spec (w := w3) 0
      rw [if_pos rfl] at hf
      refine .inl ⟨_, _, _, _, rfl, hf.mono ?_⟩
      rintro _ w4 ⟨rfl, rfl⟩
      refine .inl ⟨rfl, o12.tr s3.only, ?_⟩
      rw [hpf, hw]
      exact ⟨_, rfl, hsl.mono fun k hk => ⟨by omega, hk.2⟩, h2.still s3⟩
  · have hk := of_decide_eq_false hk
    have : partsF s = .bad 100 := by
      cases s with
      | nil => rfl
      | cons x r =>
        simp only [partsF]
        rw [if_neg]
        intro e
        exact hk (by simp [e])
    rw [this]
/-- A redirection is read so. -/
def SyR (w : World) (g : Nat) (r : Rs ((Txt × List Pt) × Ts)) (e : Ending) (w' : World) : Prop := Only g w w' ∧ match r with
  | .ok x => ∃ v, e = .returned (.agg #[.string (S x.1.1), v]) ∧ SlAt w' (fun k => w.heap.size ≤ k ∧ k < w'.heap.size) x.1.2 v ∧ Pz w' g x.2
  | .bad k => e = .panicked (errP k)
theorem redir_spec {g : Nat} {s : Ts} (h : Pz w g s) (hb : TB s) (hs : s ≠ []) : Calls Tryd.prog fn_syntax_parser_redir #[.pointer (some ⟨g, 0, none⟩)] w (SyR w g (redirF s)) := by
  refine syntax_parser_redir_calls _ _ _ ?_
  obtain ⟨x, r, rfl⟩ := List.exists_cons_of_ne_nil hs
  have hg := h.lt
  refine allocK fun w1 r1 s1 z1 => (next_spec (h.still s1)).mono ?_
  rintro _ w2 ⟨rfl, o2, h2⟩
  have hz2 := o2.size
  refine .inl ⟨_, _, rfl, (parts_spec h2 hb.tail).mono ?_⟩
  rintro e3 w3 ⟨o3, hp⟩
  have hz3 := o3.size
  have hrf : redirF (x :: r) = (partsF r).and fun y => .ok ((x.2, y.1), y.2) := rfl
  have o13 : Only g w w3 := (s1.only.tr o2).tr o3
  cases hw : partsF r with
  | bad j =>
    rw [hw] at hp
    refine .inr ⟨_, hp, o13, ?_⟩
    rw [hrf, hw]
    rfl
  | ok y =>
    rw [hw] at hp
    obtain ⟨v, rfl, hsl, h3⟩ := hp
    obtain ⟨p, c, rfl⟩ := hsl.form
    refine .inl ⟨_, _, _, rfl, ?_⟩
    have r3 := (r1.mod o2 (by omega)).mod o3 (by omega)
    refine stK r3 (by simp) (by simp [Value.oneCell']) fun w4 r4 m4 z4 => ⟨_, _, _, _, r4.lget rfl, r4.lget rfl, Mod.trans o13 m4 (fun _ h => h) (fun i hi e => by omega), ?_⟩
    rw [hrf, hw]
    exact ⟨_, rfl, (hsl.mod m4 fun k hk e => by omega).mono fun k hk => ⟨by omega, by omega⟩, h3.mod m4 fun k hk e => by omega⟩
theorem cutEq_spec (s : Txt) : Calls Tryd.prog fn_strings_CutPrefix #[.string (S s), .string (S [61])] w (fun e w' => e = .returned (.tuple #[.string (S (if s.head? = some 61 then s.drop 1 else s)), .bool (decide (s.head? = some 61))]) ∧ w' = w) := by
  refine strings_CutPrefix_calls _ _ _ _ ?_
  have ep : pf [61] s = decide (s.head? = some 61) := by
    rw [pf_isPrefixOf]
    cases s with
    | nil => rfl
    | cons c r =>
      rw [Bool.eq_iff_iff]
      simp [List.isPrefixOf]
      exact eq_comm
  have h : Calls Tryd.prog fn_internal_stringslite_CutPrefix #[.string (S s), .string (S [61])] w (fun e w' => e = .returned (.tuple #[.string (S (if s.head? = some 61 then s.drop 1 else s)), .bool (decide (s.head? = some 61))]) ∧ w' = w) := by
    refine internal_stringslite_CutPrefix_calls _ _ _ _ ?_
    refine (Tryd.stringslite_HasPrefix (S s) (S [61]) _).mono ?_
    rintro _ w1 ⟨rfl, rfl⟩
    have e2 : Lib.hasPrefix (S s).data.toList (S [61]).data.toList = pf [61] s := (pf_isPrefixOf _ _).symm
    rw [e2, ep]
    refine .inl ⟨_, rfl, bsel_of (fun h => ?_) (fun h => ?_)⟩
    · have h : ¬ s.head? = some 61 := by simpa using h
      rw [if_neg h, decide_eq_false h]
      exact ⟨rfl, rfl⟩
    · have h : s.head? = some 61 := by simpa using h
      rw [if_pos h, decide_eq_true h]
      have hl : 1 ≤ s.length := by
        cases s with
        | nil => cases h
        | cons c r => simp
      exact ⟨by decide, by simp only [List.length_cons, List.length_nil]; omega, rfl, rfl⟩
  refine h.mono ?_
  rintro _ w1 ⟨rfl, rfl⟩
  exact .inl ⟨_, _, rfl, rfl, rfl⟩
/-- An assignment is read so, if one stands here. -/
def asgR (s : Ts) : Option (Rs ((Txt × List Pt) × Ts)) := match s with
  | (_, t) :: r => (asgF t).map fun y => (wpL 30 y.2).and fun l => .ok ((y.1, l), r)
  | [] => none
def SyA (w : World) (g : Nat) (s : Ts) (e : Ending) (w' : World) : Prop := Only g w w' ∧ match asgR s with
  | none => ∃ t p n c, e = .returned (.tuple #[.agg #[.string (S t), .slice p n c], .bool false]) ∧ Pz w' g s
  | some (.ok x) => ∃ p c, e = .returned (.tuple #[.agg #[.string (S x.1.1), .slice p x.1.2.length c], .bool true]) ∧ SlAt w' (fun k => w.heap.size ≤ k ∧ k < w'.heap.size) x.1.2 (.slice p x.1.2.length c) ∧ Pz w' g x.2
  | some (.bad k) => e = .panicked (errP k)
theorem assignment_spec {g : Nat} {k : Nat} {t : Txt} {r : Ts} (h : Pz w g ((k, t) :: r)) (hb : TB ((k, t) :: r)) : Calls Tryd.prog fn_syntax_parser_assignment #[.pointer (some ⟨g, 0, none⟩)] w (SyA w g ((k, t) :: r)) := by
  refine syntax_parser_assignment_calls _ _ _ ?_
  have hg := h.lt
  have hnl := nameN_le t
  refine allocK fun w1 r1 s1 z1 => (peek_spec (h.still s1) 0).mono ?_
  rintro _ w2 ⟨rfl, s2⟩
  refine .inl ⟨_, _, rfl, (Name_spec t hb.head.1).mono ?_⟩
  rintro _ w3 ⟨rfl, s3⟩
  have s13 := (s1.trans s2).trans s3
  have hz13 := s13.size
  have hz23 := s2.size
  have hz33 := s3.size
  refine .inl ⟨_, rfl, stK ((r1.still s2).still s3) (by simp) (by simp [Value.oneCell']) fun w4 r4 m4 z4 => ?_⟩
  have htl : (t.take (nameN t)).length = nameN t := by rw [List.length_take]; omega
  have s4 : Still w w4 := s13.box (Nat.le_refl _) m4
  have h4 : Pz w4 g ((k, t) :: r) := h.still s4
  refine ⟨_, r4.lget rfl, by omega, by simp only [Option.getD_some, List.getElem?_cons_zero]; omega, ?_⟩
  rw [Int.toNat_natCast, htl]
  refine (cutEq_spec (t.drop (nameN t))).mono ?_
  rintro _ w5 ⟨rfl, rfl⟩
  have hhd : (t.drop (nameN t)).head? = t[nameN t]? := by rw [List.head?_drop]
  -- none
  have none : asgF t = none → ∀ (t1 : Txt) (w6 : World), Row w6 w.heap.size 51 ⟨[.string (S t1), .slice none 0 0]⟩ → Still w w6 → SyA w g ((k, t) :: r) (.returned (.tuple #[.agg #[.string (S t1), .slice none 0 0], .bool false])) w6 := by
    intro hno t1 w6 r6 s6
    refine ⟨s6.only, ?_⟩
    have : asgR ((k, t) :: r) = .none := by simp only [asgR, hno, Option.map_none]
    rw [this]
    exact ⟨_, _, _, _, rfl, h.still s6⟩
  refine .inl ⟨_, _, rfl, bsel_of (fun hx => ?_) (fun hx => ?_)⟩
  · have hx : ¬ (t.drop (nameN t)).head? = some 61 := nt hx
    refine ⟨_, _, _, _, r4.lget rfl, r4.lget rfl, stK r4 (by simp [ovw]) (by simp [Value.oneCell']) fun w6 r6 m6 z6 => ⟨_, _, _, _, r6.lget rfl, r6.lget rfl, ?_⟩⟩
    refine none ?_ _ w6 r6 (s4.box (Nat.le_refl _) m6)
    unfold asgF
    rw [if_neg]
    rintro ⟨_, e⟩
    exact hx (by rw [hhd]; exact e)
  have hx : (t.drop (nameN t)).head? = some 61 := nf hx
  refine ⟨_, r4.lget rfl, bsel_of (fun hn => ?_) (fun hn => ?_)⟩
  · have hn : t.take (nameN t) = [] := of_decide_eq_true hn
    rw [hn, List.length_nil] at htl
    refine ⟨_, _, _, _, r4.lget rfl, r4.lget rfl, stK r4 (by simp [ovw]) (by simp [Value.oneCell']) fun w6 r6 m6 z6 => ⟨_, _, _, _, r6.lget rfl, r6.lget rfl, ?_⟩⟩
    refine none ?_ _ w6 r6 (s4.box (Nat.le_refl _) m6)
    unfold asgF
    rw [if_neg]
    rintro ⟨e, _⟩
    omega
  have hn : t.take (nameN t) ≠ [] := of_decide_eq_false hn
  have hn0 : 0 < nameN t := by
    rcases Nat.eq_zero_or_pos (nameN t) with e | e
    · rw [e] at hn
      exact absurd rfl hn
    · exact e
  have hasg : asgF t = some (t.take (nameN t), t.drop (nameN t + 1)) := by
    unfold asgF
    rw [if_pos ⟨hn0, by rw [← hhd]; exact hx⟩]
  have hres : asgR ((k, t) :: r) = some ((wpL 30 (t.drop (nameN t + 1))).and fun l => .ok ((t.take (nameN t), l), r)) := by simp only [asgR, hasg, Option.map_some]
  have e5 : (if (t.drop (nameN t)).head? = some 61 then (t.drop (nameN t)).drop 1 else t.drop (nameN t)) = t.drop (nameN t + 1) := by rw [if_pos hx, List.drop_drop]
  rw [e5]
  have htb := hb.head.1
  refine (Parse_spec (t.drop (nameN t + 1)) (by rw [List.length_drop]; omega)).mono ?_
  rintro e6 w6 ⟨hp, s6⟩
  have hz6 := s6.size
  have hz4 := s4.size
  have s46 := s4.trans s6
  cases hw : wpL 30 (t.drop (nameN t + 1)) with
  | bad j =>
    rw [hw] at hp
    have hj : j ≠ 0 := fun e => wpL_nz 30 _ (by rw [hw, e])
    refine .inl ⟨_, _, _, _, hp, (sfail_spec j).mono ?_⟩
    rintro _ w7 ⟨rfl, rfl⟩
    rw [if_neg hj]
    refine .inr ⟨_, rfl, s46.only, ?_⟩
    rw [hres, hw]
    rfl
  | ok l =>
    rw [hw] at hp
    obtain ⟨v, rfl, hsl⟩ := hp
    obtain ⟨p, c, rfl⟩ := hsl.form
    have hf := sfail_spec (w := w6) 0
    rw [if_pos rfl] at hf
    refine .inl ⟨_, _, _, _, rfl, hf.mono ?_⟩
    rintro _ w7 ⟨rfl, rfl⟩
    refine .inl ⟨rfl, stK (r4.still s6) (by simp [ovw]) (by simp [Value.oneCell']) fun w8 r8 m8 z8 => ?_⟩
    have s8 : Still w w8 := s46.box (Nat.le_refl _) m8
    refine (next_spec (h.still s8)).mono ?_
    rintro _ w9 ⟨rfl, o9, h9⟩
    have hz9 := o9.size
    have r9 := r8.mod o9 (by omega)
    refine .inl ⟨_, _, rfl, _, _, _, _, r9.lget rfl, r9.lget rfl, stK r9 (by simp [ovw]) (by simp [Value.oneCell']) fun w10 r10 m10 z10 => ⟨_, _, _, _, r10.lget rfl, r10.lget rfl, Mod.trans (s8.only.tr o9) m10 (fun _ h => h) (fun i hi e => by omega), ?_⟩⟩
    rw [hres, hw]
    exact ⟨p, c, rfl, (((hsl.mod m8 fun k hk e => by omega).mod o9 fun k hk e => by omega).mod m10 fun k hk e => by omega).mono fun k hk => ⟨by omega, by omega⟩, h9.mod m10 fun k hk e => by omega⟩
end Go.Proofs.YtcoeiiihmpnagaaDoor
