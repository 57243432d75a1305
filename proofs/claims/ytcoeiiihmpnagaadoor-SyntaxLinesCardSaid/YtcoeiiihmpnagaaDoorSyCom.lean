/- The program's parser of scripts: commands, of each level. Conditions: as each theorem names them. -/
import Derived.Test.YtcoeiiihmpnagaaDoorM7
import Derived.Test.YtcoeiiihmpnagaaDoorSyCmdGen
namespace Go.Proofs.YtcoeiiihmpnagaaDoor
open Go.RowKit Vc
variable {w : World}

theorem head_of {s : Ts} {k : Nat} {t : Txt} (ht : t ≠ []) (h1 : ((k : Nat) : Int) = ((((s[0]?).getD (2, [])).1 : Nat) : Int)) (h2 : t = ((s[0]?).getD (2, [])).2) : ∃ r, s = (k, t) :: r := by
  cases s with
  | nil => exact absurd h2 ht
  | cons x r =>
    obtain ⟨k', t'⟩ := x
    have h1 : (k : Int) = (k' : Int) := h1
    have h2 : t = t' := h2
    exact ⟨r, by rw [h2, show k = k' by omega]⟩
theorem not_isT {s : Ts} {k : Nat} {t : Txt} (h : tokV (k : Int) t ≠ tokV ((((s[0]?).getD (2, [])).1 : Nat) : Int) ((s[0]?).getD (2, [])).2) : isT k t s = false := by
  cases hx : isT k t s with
  | false => rfl
  | true =>
    rw [isT_cons hx] at h
    exact absurd rfl h
theorem compF_none {cmd br : Pr Nd} {s : Ts} (h : ∀ j, j < 7 → cmdKey j ≠ tokV ((((s[0]?).getD (2, [])).1 : Nat) : Int) ((s[0]?).getD (2, [])).2) : compF cmd br s = none := by
  unfold compF
  rw [not_isT (k := 1) (t := tOpen) (h 0 (by omega)), not_isT (k := 0) (t := tBrace) (h 1 (by omega)), not_isT (k := 0) (t := tIf) (h 2 (by omega)), not_isT (k := 0) (t := tWhile) (h 3 (by omega)), not_isT (k := 0) (t := tUntil) (h 4 (by omega)), not_isT (k := 0) (t := tFor) (h 5 (by omega)), not_isT (k := 0) (t := tCase) (h 6 (by omega))]
  rfl
theorem resB_eq (s : Ts) : resB s = (atB 0 closL s || isT 0 tBang s) := by
  cases s with
  | nil => rfl
  | cons x r =>
    obtain ⟨k, t⟩ := x
    show (decide (k = 0) && (closL.contains t || decide (t = tBang))) = (decide (k = 0) && closL.contains t || decide (some (k, t) = some (0, tBang)))
    by_cases hk : k = 0
    · subst hk
      simp
    · simp [hk]
theorem peek_isT (r : Ts) (k : Nat) {t : Txt} (ht : t ≠ []) : (decide (((((r[0]?).getD (2, [])).1 : Nat) : Int) = (k : Int)) && ((decide (((r[0]?).getD (2, [])).2 = t)) && true)) = isT k t r := by
  cases r with
  | nil =>
    show (_ && ((decide (([] : Txt) = t)) && true)) = false
    have e : decide (([] : Txt) = t) = false := decide_eq_false (fun e => ht e.symm)
    rw [e]
    simp
  | cons x r =>
    obtain ⟨k', t'⟩ := x
    show (decide ((k' : Int) = (k : Int)) && (decide (t' = t) && true)) = decide (some (k', t') = some (k, t))
    by_cases hk : k' = k
    · subst hk
      simp
    · simp [hk]
      omega
theorem MapAt.still {w' : World} {g : Nat} {es : List (Value × Value)} (h : MapAt w g es) (hm : Still w w') : MapAt w' g es := by
  obtain ⟨ms, c, hg, hp⟩ := h
  exact ⟨ms, c, (hm.block g (Array.getElem?_eq_some_iff.1 hg).1 (fun h => h)).trans hg, hp⟩
theorem cmd_call (j : Nat) (hj : j < 7) : callable Tryd.prog (cmdTs.getD j (0, [], 0)).2.2 = true :=
  seven (p := fun j => callable Tryd.prog (cmdTs.getD j (0, [], 0)).2.2 = true) (by kernel_rfl) (by kernel_rfl) (by kernel_rfl) (by kernel_rfl) (by kernel_rfl) (by kernel_rfl) (by kernel_rfl) j hj
theorem lvS_com {L : Nat} {s : Ts} {r : Rs (Nd × Ts)} (h : compF (lvS L).1 (lvS (L + 1)).2 s = some r) : (lvS (L + 1)).1 s = r.and withR := by
  show (match compF (lvS L).1 (lvS (L + 1)).2 s with
    | some x => x.and withR
    | none => _) = _
  rw [h]
theorem lvS_not {L : Nat} {s : Ts} (h : compF (lvS L).1 (lvS (L + 1)).2 s = none) : (lvS (L + 1)).1 s = if resB s = true then .bad 100 else if funcB s = true then defF (lvS L).1 s else simpleF s := by
  show (match compF (lvS L).1 (lvS (L + 1)).2 s with
    | some x => x.and withR
    | none => _) = _
  rw [h]
theorem cmd_none : CmdS 0 := by
  intro w g s h hb
  refine syntax_parser_command_calls _ _ _ _ ?_
  refine allocK fun w1 r1 s1 z1 => bsel_of (fun _ => ⟨s1.only, rfl⟩) (fun hd => absurd (show (30 : Int) < 31 - ((0 : Nat) : Int) by decide) (of_decide_eq_false hd))
set_option maxRecDepth 10000 in
theorem command_of {L : Nat} (hL : L < 100) (hc : CmdS L) (hbr : BrS (L + 1)) : CmdS (L + 1) := by
  intro w g s h hb
  refine syntax_parser_command_calls _ _ _ _ ?_
  have hg := h.lt
  refine allocK fun w1 r1 s1 z1 => bsel_of (fun hd => absurd (of_decide_eq_true hd) (by omega)) (fun _ => ?_)
  intro us w2 s2 z2 hmap
  have h2 := (h.still s1).still s2
  refine (peek_spec h2 0).mono ?_
  rintro _ w3 ⟨rfl, s3⟩
  have h3 := h2.still s3
  have s13 := (s1.trans s2).trans s3
  have res3 := (r1.still s2).still s3
  have hgl := res3.lt
  have hx : ((s[0]?).getD (2, [])).1 < 1000 ∧ ((s[0]?).getD (2, [])).2.length < 1000000 := by
    cases s with
    | nil => exact ⟨by decide, by decide⟩
    | cons x r => exact ⟨hb.kind, hb.head.1⟩
  refine .inl ⟨_, _, rfl, look_tok (hmap.still s3) hx.1 hx.2 (fun j hj hkey => ?_) (fun hno => ?_)⟩
  · obtain ⟨r, hcall, hcomp⟩ : ∃ r, Calls Tryd.prog (cmdTs.getD j (0, [], 0)).2.2 #[.pointer (some ⟨g, 0, none⟩), .int .i64 (31 - ((L + 1 : Nat) : Int))] w3 (SyC w3 g r) ∧ compF (lvS L).1 (lvS (L + 1)).2 s = some r := by
      revert hkey
      refine seven (p := fun j => cmdKey j = tokV ((((s[0]?).getD (2, [])).1 : Nat) : Int) ((s[0]?).getD (2, [])).2 → ∃ r, Calls Tryd.prog (cmdTs.getD j (0, [], 0)).2.2 #[.pointer (some ⟨g, 0, none⟩), .int .i64 (31 - ((L + 1 : Nat) : Int))] w3 (SyC w3 g r) ∧ compF (lvS L).1 (lvS (L + 1)).2 s = some r) ?_ ?_ ?_ ?_ ?_ ?_ ?_ j hj
      · intro hkey
        obtain ⟨r, rfl⟩ := head_of (k := 1) (t := tOpen) (by decide) (tokV_inj hkey).1 (tokV_inj hkey).2
        exact ⟨_, sub_of hL hc h3 hb, rfl⟩
      · intro hkey
        obtain ⟨r, rfl⟩ := head_of (k := 0) (t := tBrace) (by decide) (tokV_inj hkey).1 (tokV_inj hkey).2
        exact ⟨_, sygroup_of hL hc h3 hb, rfl⟩
      · intro hkey
        obtain ⟨r, rfl⟩ := head_of (k := 0) (t := tIf) (by decide) (tokV_inj hkey).1 (tokV_inj hkey).2
        exact ⟨_, choice_of hbr h3 hb, rfl⟩
      · intro hkey
        obtain ⟨r, rfl⟩ := head_of (k := 0) (t := tWhile) (by decide) (tokV_inj hkey).1 (tokV_inj hkey).2
        exact ⟨_, loop_of hL hc h3 hb, rfl⟩
      · intro hkey
        obtain ⟨r, rfl⟩ := head_of (k := 0) (t := tUntil) (by decide) (tokV_inj hkey).1 (tokV_inj hkey).2
        exact ⟨_, loop_of hL hc h3 hb, rfl⟩
      · intro hkey
        obtain ⟨r, rfl⟩ := head_of (k := 0) (t := tFor) (by decide) (tokV_inj hkey).1 (tokV_inj hkey).2
        exact ⟨_, each_of hL hc h3 hb, rfl⟩
      · intro hkey
        obtain ⟨r, rfl⟩ := head_of (k := 0) (t := tCase) (by decide) (tokV_inj hkey).1 (tokV_inj hkey).2
        exact ⟨_, cases_of hL hc h3 hb, rfl⟩
    have hlv := lvS_com hcomp
    have hcb := cmd_call j hj
    refine ⟨fun _ => False, bsel_of (fun _ => ?_) (fun hf => by cases hf), fun _ _ hf => hf.elim⟩
    show bsel (callable Tryd.prog (cmdTs.getD j (0, [], 0)).2.2) _ _
    refine bsel_of (fun _ => ?_) (fun hf => by rw [hcb] at hf; cases hf)
    refine hcall.mono ?_
    rintro e4 w4 ⟨o4, hp⟩
    have o04 := s13.only.tr o4
    have hz4 := o4.size
    cases r with
    | bad k => exact .inr ⟨_, hp, o04, by rw [hlv]; rfl⟩
    | ok y =>
    obtain ⟨cs, rfl, hnd, h4, hc5⟩ := hp
    obtain ⟨pw, cw, pa, ca, pr, cr, po, co, pk, ck, rfl, _⟩ := hnd.outs
    have hc5 : Value.slice pr y.1.rs.length cr = .slice none 0 0 := Option.some.inj hc5
    have hc5v := hc5
    injection hc5 with e1 e2 e3
    have hrs : y.1.rs = [] := List.eq_nil_of_length_eq_zero e2
    rw [hc5v] at hnd
    refine .inl ⟨_, _, _, _, _, _, _, _, _, _, _, _, _, _, _, _, _, _, rfl, allocK fun w5 r5 s5 z5 => stK r5 (by simp) (by simp [Value.oneCell']) fun w6 r6 m6 z6 => ?_⟩
    have r6 : Row w6 w4.heap.size 32 ⟨ncell y.1 (.slice pw y.1.ws.length cw) (.slice pa y.1.as.length ca) (.slice pr y.1.rs.length cr) (.slice po y.1.os.length co) (.slice pk y.1.ks.length ck)⟩ := r6
    rw [hc5v] at r6
    have o6 : Only g w w6 := Mod.trans (o04.tr s5.only) m6 (fun _ h => h) (fun i hi e => by omega)
    have h6 := (h4.still s5).mod m6 (by intro k hk e; have := h4.lt; omega)
    have res6 : Row w6 w.heap.size 32 ⟨zcell⟩ := ((res3.mod o4 (by omega)).still s5).mod m6 (by omega)
    have hnd6 := ((hnd.still s5).mod m6 (fun k hk (e : k = w4.heap.size) => by omega)).mono (G := fun k => w.heap.size + 1 ≤ k ∧ k < w6.heap.size ∧ k ≠ w4.heap.size) fun k hk => ⟨by omega, by omega, by omega⟩
    have nb6 := NR.mk0 (B := w.heap.size + 1) r6 o6 hg (by omega) (by omega) hrs hnd6
    have hwr : (lvS (L + 1)).1 s = (manyF redirsS [] y.2).and fun z => .ok (.mk y.1.k y.1.neg y.1.nm y.1.ws y.1.as z.1 y.1.os y.1.ks, z.2) := hlv
    rw [hwr]
    clear hwr hlv
    have hy2 : y.2 <:+ s := compF_suf (lvS_suf L).1 (lvS_suf (L + 1)).2 hcomp rfl
    have hby := hb.suf hy2
    have hyl := hby.1
    refine ⟨fun w7 => ∃ s9 rs vr X, NR w w7 g w4.heap.size (w.heap.size + 1) X (.mk y.1.k y.1.neg y.1.nm y.1.ws y.1.as rs y.1.os y.1.ks) (.slice pw y.1.ws.length cw) (.slice pa y.1.as.length ca) vr (.slice po y.1.os.length co) (.slice pk y.1.ks.length ck) ∧ Row w7 w.heap.size 32 ⟨zcell⟩ ∧ Pz w7 g s9 ∧ s9 <:+ y.2 ∧ rs.length + s9.length ≤ y.2.length ∧ manyF redirsS rs s9 = manyF redirsS [] y.2, pzLen g, ⟨y.2, [], .slice none 0 0, (fun k => k = w4.heap.size), ?_, res6, h6, List.suffix_refl _, by simp only [List.length_nil]; omega, rfl⟩, ?_⟩
    · have := nb6
      rw [← Nd.eta y.1, hrs] at this
      exact this
    rintro _ w7 ⟨s9, rs, vr, X, nb7, res7, h7, hsf9, hlen, heq⟩
    have hm := manyF_step redirsS_sinks rs s9
    rw [heq] at hm
    have hb9 := hby.suf hsf9
    refine (redirects_spec h7).mono ?_
    rintro _ w8 ⟨rfl, s8⟩
    have nb8 := nb7.still s8
    have res8 := res7.still s8
    have h8 := h7.still s8
    refine .inl ⟨_, rfl, bsel_of (fun hx => ?_) (fun hx => ?_)⟩
    · have hst : redirsS rs s9 = (redirF s9).and fun x => .ok (.inl (rs ++ [x.1], x.2)) := by unfold redirsS; rw [if_pos hx]
      rw [hst] at hm
      refine redR_spec nb8 h8 hb9 (by rintro rfl; cases hx) (show rs.length < 1000000 by omega) (fun k w' hr o => ⟨o, ?_⟩) (fun z vr9 w9 X9 hr nb9 h9 m9 => ?_)
      · rw [hr] at hm
        have hm : manyF redirsS [] y.2 = .bad k := hm
        rw [hm]
        rfl
      rw [hr] at hm
      have hz1 := redirF_eats _ _ hr
      have hz2 := redirF_suf _ _ hr
      exact ⟨⟨z.2, rs ++ [z.1], vr9, X9, nb9, res8.mod m9 (by intro e; omega), h9, hz2.trans hsf9, by simp only [List.length_append, List.length_cons, List.length_nil]; omega, hm.symm⟩, by rw [h9.len, h7.len]; omega⟩
    · have hst : redirsS rs s9 = .ok (.inr (rs, s9)) := by unfold redirsS; rw [if_neg (by rw [hx]; decide)]
      rw [hst] at hm
      have hm : manyF redirsS [] y.2 = .ok (rs, s9) := hm
      rw [hm]
      exact nExit_red nb8 res8 (Nat.lt_succ_self _) fun w' cs' m' o' hn' => ⟨o', _, rfl, hn', h8.mod m' fun j hj e => by omega⟩
  have hcn : compF (lvS L).1 (lvS (L + 1)).2 s = none := compF_none hno
  have hlv := lvS_not hcn
  rw [hlv]
  refine ⟨fun w27 => Only g w w27 ∧ Row w27 w.heap.size 32 ⟨zcell⟩ ∧ Pz w27 g s ∧ resB s = false ∧ funcB s = false, bsel_of (fun hf => by cases hf) (fun _ => ?_), ?_⟩
  rotate_left
  · rintro _ w27 ⟨o27, res27, h27, hrb, hfb⟩
    have hl27 := res27.lt
    rw [if_neg (by rw [hrb]; decide), if_neg (by rw [hfb]; decide)]
    refine (simple_spec h27 hb).mono ?_
    rintro e28 w28 ⟨o28, hp⟩
    have o028 := o27.tr o28
    cases hr : simpleF s with
    | bad k =>
      rw [hr] at hp
      exact .inr ⟨_, hp, o028, rfl⟩
    | ok y =>
    rw [hr] at hp
    obtain ⟨cs, rfl, hnd, h28⟩ := hp
    obtain ⟨pw, cw, pa, ca, pr, cr, po, co, pk, ck, rfl, _⟩ := hnd.outs
    refine .inl ⟨_, _, _, _, _, _, _, _, _, _, _, _, _, _, _, _, _, _, rfl, stK (res27.mod o28 (by omega)) (by simp) (by simp [Value.oneCell']) fun w' r' m' z' => ?_⟩
    refine ⟨_, _, _, _, _, _, _, _, _, _, _, _, _, _, _, _, _, _, r'.lget rfl, r'.lget rfl, r'.lget rfl, r'.lget rfl, r'.lget rfl, r'.lget rfl, r'.lget rfl, r'.lget rfl, Mod.trans o028 m' (fun _ h => h) (fun i hi e => by omega), _, rfl, ?_, h28.mod m' fun j hj e => by omega⟩
    exact (hnd.mod m' fun k hk e => by omega).mono fun k hk => ⟨by omega, by omega⟩
  refine ⟨fun b w18 => Still w3 w18 ∧ b = resB s, closers_spec.mono ?_, ?_⟩
  · rintro _ w14 ⟨q, rfl, hq, s14⟩
    refine .inl ⟨_, _, _, rfl, (at_spec (h3.still s14) 0 hq (by decide)).mono ?_⟩
    rintro _ w15 ⟨rfl, s15⟩
    refine .inl ⟨_, rfl, bsel_of (fun hx => ?_) (fun hx => ?_)⟩
    · exact ⟨s14.trans s15, by rw [resB_eq, hx]; rfl⟩
    · refine allocK fun w16 r16 s16 z16 => (at_spec (((h3.still s14).still s15).still s16) 0 (StrsAt.row (l := [tBang]) r16) (by decide)).mono ?_
      rintro _ w17 ⟨rfl, s17⟩
      exact .inl ⟨_, rfl, ((s14.trans s15).trans s16).trans s17, by rw [resB_eq, hx, atB_one (by decide)]; rfl⟩
  rintro b _ w18 ⟨s18, rfl⟩
  have h18 := h3.still s18
  refine bsel_of (fun hrb => ⟨(s13.trans s18).only, by rw [if_pos hrb]; rfl⟩) (fun hrb => ?_)
  rw [if_neg (by rw [hrb]; decide)]
  refine ⟨fun b w24 => Still w18 w24 ∧ b = funcB s, (peek_spec h18 0).mono ?_, ?_⟩
  · rintro _ w19 ⟨rfl, s19⟩
    refine .inl ⟨_, _, rfl, ?_⟩
    rw [isW_peek]
    refine bsel_of (fun hw => ?_) (fun hw => ⟨s19, ?_⟩)
    rotate_left
    · match s, hw with
      | [], _ => rfl
      | (k, t) :: r, hw =>
        have hk : decide (k = 0) = false := hw
        show false = (decide (k = 0) && isName t && isT 1 tOpen r && isT 1 tShut r.tail)
        rw [hk]
        rfl
    obtain ⟨t, r, rfl⟩ : ∃ t r, s = (0, t) :: r := by
      match s, hw with
      | (k, t) :: r, hw => exact ⟨t, r, by rw [show k = 0 from of_decide_eq_true hw]⟩
    have hfe : funcB ((0, t) :: r) = (isName t && isT 1 tOpen r && isT 1 tShut r.tail) := rfl
    rw [hfe]
    refine (peek_spec (h18.still s19) 0).mono ?_
    rintro _ w20 ⟨rfl, s20⟩
    refine .inl ⟨_, _, rfl, (IsName_spec t hb.head.1).mono ?_⟩
    rintro _ w21 ⟨rfl, s21⟩
    have s1821 := (s19.trans s20).trans s21
    refine .inl ⟨_, rfl, bsel_of (fun hn => ?_) (fun hn => ⟨s1821, ?_⟩)⟩
    rotate_left
    · rw [show isName t = false from hn]
      rfl
    rw [show isName t = true from hn]
    refine (peek_spec (h18.still s1821) 1).mono ?_
    rintro _ w22 ⟨rfl, s22⟩
    have e1 : ((0, t) :: r)[1]? = r[0]? := rfl
    rw [e1]
    refine .inl ⟨_, _, rfl, ?_⟩
    rw [show (decide (((((r[0]?).getD (2, [])).1 : Nat) : Int) = (1 : Int)) && ((decide (((r[0]?).getD (2, [])).2 = [40])) && true)) = isT 1 tOpen r from peek_isT r 1 (by decide)]
    refine bsel_of (fun ho => ?_) (fun ho => ⟨s1821.trans s22, ?_⟩)
    rotate_left
    · rw [ho]
      rfl
    rw [ho]
    refine (peek_spec (h18.still (s1821.trans s22)) 2).mono ?_
    rintro _ w23 ⟨rfl, s23⟩
    have e2 : ((0, t) :: r)[2]? = r.tail[0]? := by
      cases r with
      | nil => rfl
      | cons a r => cases r <;> rfl
    rw [e2]
    refine .inl ⟨_, _, rfl, (s1821.trans s22).trans s23, ?_⟩
    rw [show (decide (((((r.tail[0]?).getD (2, [])).1 : Nat) : Int) = (1 : Int)) && ((decide (((r.tail[0]?).getD (2, [])).2 = [41])) && true)) = isT 1 tShut r.tail from peek_isT r.tail 1 (by decide)]
    rfl
  rintro b _ w24 ⟨s24, rfl⟩
  have s1824 := s18.trans s24
  have h24 := h18.still s24
  have res24 := res3.still s1824
  refine bsel_of (fun hf => ?_) (fun hf => ⟨(s13.trans s1824).only, res24, h24, hrb, hf⟩)
  have hl24 := res24.lt
  rw [if_pos hf]
  obtain ⟨x, y, z, r, rfl⟩ : ∃ x y z r, s = x :: y :: z :: r := by
    match s, hf with
    | (k, t) :: r, hf =>
      have hf : (decide (k = 0) && isName t && isT 1 tOpen r && isT 1 tShut r.tail) = true := hf
      rw [Bool.and_eq_true, Bool.and_eq_true] at hf
      have a1 := isT_cons hf.1.2
      have a2 := isT_cons hf.2
      exact ⟨_, _, _, _, by rw [a1, a2]⟩
  refine (function_of hL hc h24 hb).mono ?_
  rintro e28 w28 ⟨o28, hp⟩
  have o028 := (s13.trans s1824).only.tr o28
  cases hr : defF (lvS L).1 (x :: y :: z :: r) with
  | bad k =>
    rw [hr] at hp
    exact .inr ⟨_, hp, o028, rfl⟩
  | ok y =>
  rw [hr] at hp
  obtain ⟨cs, rfl, hnd, h28⟩ := hp
  obtain ⟨pw, cw, pa, ca, pr, cr, po, co, pk, ck, rfl, _⟩ := hnd.outs
  refine .inl ⟨_, _, _, _, _, _, _, _, _, _, _, _, _, _, _, _, _, _, rfl, stK (res24.mod o28 (by omega)) (by simp) (by simp [Value.oneCell']) fun w' r' m' z' => ?_⟩
  refine ⟨_, _, _, _, _, _, _, _, _, _, _, _, _, _, _, _, _, _, r'.lget rfl, r'.lget rfl, r'.lget rfl, r'.lget rfl, r'.lget rfl, r'.lget rfl, r'.lget rfl, r'.lget rfl, Mod.trans o028 m' (fun _ h => h) (fun i hi e => by omega), _, rfl, ?_, h28.mod m' fun j hj e => by omega⟩
  exact (hnd.mod m' fun k hk e => by omega).mono fun k hk => ⟨by omega, by omega⟩
theorem sy_levels : ∀ L, L < 100 → CmdS L ∧ BrS L
  | 0, _ => ⟨cmd_none, fun _ _ _ _ _ _ h => absurd rfl h⟩
  | L + 1, hL => by
    obtain ⟨h1, h2⟩ := sy_levels L (by omega)
    have hb := branch_of (by omega) h1 h2
    exact ⟨command_of (by omega) h1 hb, hb⟩
end Go.Proofs.YtcoeiiihmpnagaaDoor
