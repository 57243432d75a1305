/- Texts of one proof, one behind the other. Conditions: as each theorem names them. -/
import Derived.Test.YtcoeiiihmpnagaaGreatDoorQ8
import Derived.Tactics
import Derived.Tactics2
import Derived.Defers
import Derived.Recover
import Derived.Laws.Pointers
import Derived.Deep.Slices
namespace Go.Proofs.YtcoeiiihmpnagaaGreatDoor
open Go.RowKit Vc
variable {w : World}
theorem head_of {s : Ts} {k : Nat} {t : Txt} (ht : t ≠ []) (h1 : ((k : Nat) : Int) = ((((s[0]?).getD (2, [])).1 : Nat) : Int)) (h2 : t = ((s[0]?).getD (2, [])).2) : ∃ r, s = (k, t) :: r := by
  cases s with
  | nil => exact absurd h2 ht
  | cons x r =>
    obtain ⟨k', t'⟩ := x
    have h1 : (k : Int) = (k' : Int) := h1
    have h2 : t = t' := h2
    exact ⟨r, by rw [h2, show k = k' by omega]⟩
theorem not_isT {s : Ts} {k : Nat} {t : Txt} (h : tokV (k : Int) t ≠ tokV ((((s[0]?).getD (2, [])).1 : Nat) : Int) ((s[0]?).getD (2, [])).2) : isT k t s = false := by
  cases hx : isT k t s with
  | false => rfl
  | true =>
    rw [isT_cons hx] at h
    exact absurd rfl h
theorem compF_none {cmd br : Pr Nd} {s : Ts} (h : ∀ j, j < 7 → cmdKey j ≠ tokV ((((s[0]?).getD (2, [])).1 : Nat) : Int) ((s[0]?).getD (2, [])).2) : compF cmd br s = none := by
  unfold compF
  rw [not_isT (k := 1) (t := tOpen) (h 0 (by omega)), not_isT (k := 0) (t := tBrace) (h 1 (by omega)), not_isT (k := 0) (t := tIf) (h 2 (by omega)), not_isT (k := 0) (t := tWhile) (h 3 (by omega)), not_isT (k := 0) (t := tUntil) (h 4 (by omega)), not_isT (k := 0) (t := tFor) (h 5 (by omega)), not_isT (k := 0) (t := tCase) (h 6 (by omega))]
  rfl
theorem resB_eq (s : Ts) : resB s = (atB 0 closL s || isT 0 tBang s) := by
  cases s with
  | nil => rfl
  | cons x r =>
    obtain ⟨k, t⟩ := x
    show (decide (k = 0) && (closL.contains t || decide (t = tBang))) = (decide (k = 0) && closL.contains t || decide (some (k, t) = some (0, tBang)))
    by_cases hk : k = 0
    · subst hk
      simp
    · simp [hk]
theorem peek_isT (r : Ts) (k : Nat) {t : Txt} (ht : t ≠ []) : (decide (((((r[0]?).getD (2, [])).1 : Nat) : Int) = (k : Int)) && ((decide (((r[0]?).getD (2, [])).2 = t)) && true)) = isT k t r := by
  cases r with
  | nil =>
    show (_ && ((decide (([] : Txt) = t)) && true)) = false
    have e : decide (([] : Txt) = t) = false := decide_eq_false (fun e => ht e.symm)
    rw [e]
    simp
  | cons x r =>
    obtain ⟨k', t'⟩ := x
    show (decide ((k' : Int) = (k : Int)) && (decide (t' = t) && true)) = decide (some (k', t') = some (k, t))
    by_cases hk : k' = k
    · subst hk
      simp
    · simp [hk]
      omega
theorem MapAt.still {w' : World} {g : Nat} {es : List (Value × Value)} (h : MapAt w g es) (hm : Still w w') : MapAt w' g es := by
  obtain ⟨ms, c, hg, hp⟩ := h
  exact ⟨ms, c, (hm.block g (Array.getElem?_eq_some_iff.1 hg).1 (fun h => h)).trans hg, hp⟩
theorem cmd_call (j : Nat) (hj : j < 7) : callable Tryz.prog (cmdTs.getD j (0, [], 0)).2.2 = true :=
  seven (p := fun j => callable Tryz.prog (cmdTs.getD j (0, [], 0)).2.2 = true) (by kernel_rfl) (by kernel_rfl) (by kernel_rfl) (by kernel_rfl) (by kernel_rfl) (by kernel_rfl) (by kernel_rfl) j hj
theorem lvS_com {L : Nat} {s : Ts} {r : Rs (Nd × Ts)} (h : compF (lvS L).1 (lvS (L + 1)).2 s = some r) : (lvS (L + 1)).1 s = r.and withR := by
  show (match compF (lvS L).1 (lvS (L + 1)).2 s with
    | some x => x.and withR
    | none => _) = _
  rw [h]
theorem lvS_not {L : Nat} {s : Ts} (h : compF (lvS L).1 (lvS (L + 1)).2 s = none) : (lvS (L + 1)).1 s = if resB s = true then .bad 100 else if funcB s = true then defF (lvS L).1 s else simpleF s := by
  show (match compF (lvS L).1 (lvS (L + 1)).2 s with
    | some x => x.and withR
    | none => _) = _
  rw [h]
theorem cmd_none : CmdS 0 := by
  intro w g s h hb
  refine syntax_parser_command_calls _ _ _ _ ?_
  refine allocK fun w1 r1 s1 z1 => bsel_of (fun _ => ⟨s1.only, rfl⟩) (fun hd => absurd (show (30 : Int) < 31 - ((0 : Nat) : Int) by decide) (of_decide_eq_false hd))
set_option maxRecDepth 10000 in
theorem command_of {L : Nat} (hL : L < 100) (hc : CmdS L) (hbr : BrS (L + 1)) : CmdS (L + 1) := by
  intro w g s h hb
  refine syntax_parser_command_calls _ _ _ _ ?_
  have hg := h.lt
  refine allocK fun w1 r1 s1 z1 => bsel_of (fun hd => absurd (of_decide_eq_true hd) (by omega)) (fun _ => ?_)
  intro us w2 s2 z2 hmap
  have h2 := (h.still s1).still s2
  refine (peek_spec h2 0).mono ?_
  rintro _ w3 ⟨rfl, s3⟩
  have h3 := h2.still s3
  have s13 := (s1.trans s2).trans s3
  have res3 := (r1.still s2).still s3
  have hgl := res3.lt
  have hx : ((s[0]?).getD (2, [])).1 < 1000 ∧ ((s[0]?).getD (2, [])).2.length < 1000000 := by
    cases s with
    | nil => exact ⟨by decide, by decide⟩
    | cons x r => exact ⟨hb.kind, hb.head.1⟩
  refine .inl ⟨_, _, rfl, look_tok (hmap.still s3) hx.1 hx.2 (fun j hj hkey => ?_) (fun hno => ?_)⟩
  · obtain ⟨r, hcall, hcomp⟩ : ∃ r, Calls Tryz.prog (cmdTs.getD j (0, [], 0)).2.2 #[.pointer (some ⟨g, 0, none⟩), .int .i64 (31 - ((L + 1 : Nat) : Int))] w3 (SyC w3 g r) ∧ compF (lvS L).1 (lvS (L + 1)).2 s = some r := by
      revert hkey
      refine seven (p := fun j => cmdKey j = tokV ((((s[0]?).getD (2, [])).1 : Nat) : Int) ((s[0]?).getD (2, [])).2 → ∃ r, Calls Tryz.prog (cmdTs.getD j (0, [], 0)).2.2 #[.pointer (some ⟨g, 0, none⟩), .int .i64 (31 - ((L + 1 : Nat) : Int))] w3 (SyC w3 g r) ∧ compF (lvS L).1 (lvS (L + 1)).2 s = some r) ?_ ?_ ?_ ?_ ?_ ?_ ?_ j hj
      · intro hkey
        obtain ⟨r, rfl⟩ := head_of (k := 1) (t := tOpen) (by decide) (tokV_inj hkey).1 (tokV_inj hkey).2
        exact ⟨_, sub_of hL hc h3 hb, rfl⟩
      · intro hkey
        obtain ⟨r, rfl⟩ := head_of (k := 0) (t := tBrace) (by decide) (tokV_inj hkey).1 (tokV_inj hkey).2
        exact ⟨_, sygroup_of hL hc h3 hb, rfl⟩
      · intro hkey
        obtain ⟨r, rfl⟩ := head_of (k := 0) (t := tIf) (by decide) (tokV_inj hkey).1 (tokV_inj hkey).2
        exact ⟨_, choice_of hbr h3 hb, rfl⟩
      · intro hkey
        obtain ⟨r, rfl⟩ := head_of (k := 0) (t := tWhile) (by decide) (tokV_inj hkey).1 (tokV_inj hkey).2
        exact ⟨_, loop_of hL hc h3 hb, rfl⟩
      · intro hkey
        obtain ⟨r, rfl⟩ := head_of (k := 0) (t := tUntil) (by decide) (tokV_inj hkey).1 (tokV_inj hkey).2
        exact ⟨_, loop_of hL hc h3 hb, rfl⟩
      · intro hkey
        obtain ⟨r, rfl⟩ := head_of (k := 0) (t := tFor) (by decide) (tokV_inj hkey).1 (tokV_inj hkey).2
        exact ⟨_, each_of hL hc h3 hb, rfl⟩
      · intro hkey
        obtain ⟨r, rfl⟩ := head_of (k := 0) (t := tCase) (by decide) (tokV_inj hkey).1 (tokV_inj hkey).2
        exact ⟨_, cases_of hL hc h3 hb, rfl⟩
    have hlv := lvS_com hcomp
    have hcb := cmd_call j hj
    refine ⟨fun _ => False, bsel_of (fun _ => ?_) (fun hf => by cases hf), fun _ _ hf => hf.elim⟩
    show bsel (callable Tryz.prog (cmdTs.getD j (0, [], 0)).2.2) _ _
    refine bsel_of (fun _ => ?_) (fun hf => by rw [hcb] at hf; cases hf)
    refine hcall.mono ?_
    rintro e4 w4 ⟨o4, hp⟩
    have o04 := s13.only.tr o4
    have hz4 := o4.size
    cases r with
    | bad k => exact .inr ⟨_, hp, o04, by rw [hlv]; rfl⟩
    | ok y =>
    obtain ⟨cs, rfl, hnd, h4, hc5⟩ := hp
    obtain ⟨pw, cw, pa, ca, pr, cr, po, co, pk, ck, rfl, _⟩ := hnd.outs
    have hc5 : Value.slice pr y.1.rs.length cr = .slice none 0 0 := Option.some.inj hc5
    have hc5v := hc5
    injection hc5 with e1 e2 e3
    have hrs : y.1.rs = [] := List.eq_nil_of_length_eq_zero e2
    rw [hc5v] at hnd
    refine .inl ⟨_, _, _, _, _, _, _, _, _, _, _, _, _, _, _, _, _, _, rfl, allocK fun w5 r5 s5 z5 => stK r5 (by simp) (by simp [Value.oneCell']) fun w6 r6 m6 z6 => ?_⟩
    have r6 : Row w6 w4.heap.size 31 ⟨ncell y.1 (.slice pw y.1.ws.length cw) (.slice pa y.1.as.length ca) (.slice pr y.1.rs.length cr) (.slice po y.1.os.length co) (.slice pk y.1.ks.length ck)⟩ := r6
    rw [hc5v] at r6
    have o6 : Only g w w6 := Mod.trans (o04.tr s5.only) m6 (fun _ h => h) (fun i hi e => by omega)
    have h6 := (h4.still s5).mod m6 (by intro k hk e; have := h4.lt; omega)
    have res6 : Row w6 w.heap.size 31 ⟨zcell⟩ := ((res3.mod o4 (by omega)).still s5).mod m6 (by omega)
    have hnd6 := ((hnd.still s5).mod m6 (fun k hk (e : k = w4.heap.size) => by omega)).mono (G := fun k => w.heap.size + 1 ≤ k ∧ k < w6.heap.size ∧ k ≠ w4.heap.size) fun k hk => ⟨by omega, by omega, by omega⟩
    have nb6 := NR.mk0 (B := w.heap.size + 1) r6 o6 hg (by omega) (by omega) hrs hnd6
    have hwr : (lvS (L + 1)).1 s = (manyF redirsS [] y.2).and fun z => .ok (.mk y.1.k y.1.neg y.1.nm y.1.ws y.1.as z.1 y.1.os y.1.ks, z.2) := hlv
    rw [hwr]
    clear hwr hlv
    have hy2 : y.2 <:+ s := compF_suf (lvS_suf L).1 (lvS_suf (L + 1)).2 hcomp rfl
    have hby := hb.suf hy2
    have hyl := hby.1
    refine ⟨fun w7 => ∃ s9 rs vr X, NR w w7 g w4.heap.size (w.heap.size + 1) X (.mk y.1.k y.1.neg y.1.nm y.1.ws y.1.as rs y.1.os y.1.ks) (.slice pw y.1.ws.length cw) (.slice pa y.1.as.length ca) vr (.slice po y.1.os.length co) (.slice pk y.1.ks.length ck) ∧ Row w7 w.heap.size 31 ⟨zcell⟩ ∧ Pz w7 g s9 ∧ s9 <:+ y.2 ∧ rs.length + s9.length ≤ y.2.length ∧ manyF redirsS rs s9 = manyF redirsS [] y.2, pzLen g, ⟨y.2, [], .slice none 0 0, (fun k => k = w4.heap.size), ?_, res6, h6, List.suffix_refl _, by simp only [List.length_nil]; omega, rfl⟩, ?_⟩
    · have := nb6
      rw [← Nd.eta y.1, hrs] at this
      exact this
    rintro _ w7 ⟨s9, rs, vr, X, nb7, res7, h7, hsf9, hlen, heq⟩
    have hm := manyF_step redirsS_sinks rs s9
    rw [heq] at hm
    have hb9 := hby.suf hsf9
    refine (redirects_spec h7).mono ?_
    rintro _ w8 ⟨rfl, s8⟩
    have nb8 := nb7.still s8
    have res8 := res7.still s8
    have h8 := h7.still s8
    refine .inl ⟨_, rfl, bsel_of (fun hx => ?_) (fun hx => ?_)⟩
    · have hst : redirsS rs s9 = (redirF s9).and fun x => .ok (.inl (rs ++ [x.1], x.2)) := by unfold redirsS; rw [if_pos hx]
      rw [hst] at hm
      refine redR_spec nb8 h8 hb9 (by rintro rfl; cases hx) (show rs.length < 1000000 by omega) (fun k w' hr o => ⟨o, ?_⟩) (fun z vr9 w9 X9 hr nb9 h9 m9 => ?_)
      · rw [hr] at hm
        have hm : manyF redirsS [] y.2 = .bad k := hm
        rw [hm]
        rfl
      rw [hr] at hm
      have hz1 := redirF_eats _ _ hr
      have hz2 := redirF_suf _ _ hr
      exact ⟨⟨z.2, rs ++ [z.1], vr9, X9, nb9, res8.mod m9 (by intro e; omega), h9, hz2.trans hsf9, by simp only [List.length_append, List.length_cons, List.length_nil]; omega, hm.symm⟩, by rw [h9.len, h7.len]; omega⟩
    · have hst : redirsS rs s9 = .ok (.inr (rs, s9)) := by unfold redirsS; rw [if_neg (by rw [hx]; decide)]
      rw [hst] at hm
      have hm : manyF redirsS [] y.2 = .ok (rs, s9) := hm
      rw [hm]
      exact nExit_red nb8 res8 (Nat.lt_succ_self _) fun w' cs' m' o' hn' => ⟨o', _, rfl, hn', h8.mod m' fun j hj e => by omega⟩
  have hcn : compF (lvS L).1 (lvS (L + 1)).2 s = none := compF_none hno
  have hlv := lvS_not hcn
  rw [hlv]
  refine ⟨fun w27 => Only g w w27 ∧ Row w27 w.heap.size 31 ⟨zcell⟩ ∧ Pz w27 g s ∧ resB s = false ∧ funcB s = false, bsel_of (fun hf => by cases hf) (fun _ => ?_), ?_⟩
  rotate_left
  · rintro _ w27 ⟨o27, res27, h27, hrb, hfb⟩
    have hl27 := res27.lt
    rw [if_neg (by rw [hrb]; decide), if_neg (by rw [hfb]; decide)]
    refine (simple_spec h27 hb).mono ?_
    rintro e28 w28 ⟨o28, hp⟩
    have o028 := o27.tr o28
    cases hr : simpleF s with
    | bad k =>
      rw [hr] at hp
      exact .inr ⟨_, hp, o028, rfl⟩
    | ok y =>
    rw [hr] at hp
    obtain ⟨cs, rfl, hnd, h28⟩ := hp
    obtain ⟨pw, cw, pa, ca, pr, cr, po, co, pk, ck, rfl, _⟩ := hnd.outs
    refine .inl ⟨_, _, _, _, _, _, _, _, _, _, _, _, _, _, _, _, _, _, rfl, stK (res27.mod o28 (by omega)) (by simp) (by simp [Value.oneCell']) fun w' r' m' z' => ?_⟩
    refine ⟨_, _, _, _, _, _, _, _, _, _, _, _, _, _, _, _, _, _, r'.lget rfl, r'.lget rfl, r'.lget rfl, r'.lget rfl, r'.lget rfl, r'.lget rfl, r'.lget rfl, r'.lget rfl, Mod.trans o028 m' (fun _ h => h) (fun i hi e => by omega), _, rfl, ?_, h28.mod m' fun j hj e => by omega⟩
    exact (hnd.mod m' fun k hk e => by omega).mono fun k hk => ⟨by omega, by omega⟩
  refine ⟨fun b w18 => Still w3 w18 ∧ b = resB s, closers_spec.mono ?_, ?_⟩
  · rintro _ w14 ⟨q, rfl, hq, s14⟩
    refine .inl ⟨_, _, _, rfl, (at_spec (h3.still s14) 0 hq (by decide)).mono ?_⟩
    rintro _ w15 ⟨rfl, s15⟩
    refine .inl ⟨_, rfl, bsel_of (fun hx => ?_) (fun hx => ?_)⟩
    · exact ⟨s14.trans s15, by rw [resB_eq, hx]; rfl⟩
    · refine allocK fun w16 r16 s16 z16 => (at_spec (((h3.still s14).still s15).still s16) 0 (StrsAt.row (l := [tBang]) r16) (by decide)).mono ?_
      rintro _ w17 ⟨rfl, s17⟩
      exact .inl ⟨_, rfl, ((s14.trans s15).trans s16).trans s17, by rw [resB_eq, hx, atB_one (by decide)]; rfl⟩
  rintro b _ w18 ⟨s18, rfl⟩
  have h18 := h3.still s18
  refine bsel_of (fun hrb => ⟨(s13.trans s18).only, by rw [if_pos hrb]; rfl⟩) (fun hrb => ?_)
  rw [if_neg (by rw [hrb]; decide)]
  refine ⟨fun b w24 => Still w18 w24 ∧ b = funcB s, (peek_spec h18 0).mono ?_, ?_⟩
  · rintro _ w19 ⟨rfl, s19⟩
    refine .inl ⟨_, _, rfl, ?_⟩
    rw [isW_peek]
    refine bsel_of (fun hw => ?_) (fun hw => ⟨s19, ?_⟩)
    rotate_left
    · match s, hw with
      | [], _ => rfl
      | (k, t) :: r, hw =>
        have hk : decide (k = 0) = false := hw
        show false = (decide (k = 0) && isName t && isT 1 tOpen r && isT 1 tShut r.tail)
        rw [hk]
        rfl
    obtain ⟨t, r, rfl⟩ : ∃ t r, s = (0, t) :: r := by
      match s, hw with
      | (k, t) :: r, hw => exact ⟨t, r, by rw [show k = 0 from of_decide_eq_true hw]⟩
    have hfe : funcB ((0, t) :: r) = (isName t && isT 1 tOpen r && isT 1 tShut r.tail) := rfl
    rw [hfe]
    refine (peek_spec (h18.still s19) 0).mono ?_
    rintro _ w20 ⟨rfl, s20⟩
    refine .inl ⟨_, _, rfl, (IsName_spec t hb.head.1).mono ?_⟩
    rintro _ w21 ⟨rfl, s21⟩
    have s1821 := (s19.trans s20).trans s21
    refine .inl ⟨_, rfl, bsel_of (fun hn => ?_) (fun hn => ⟨s1821, ?_⟩)⟩
    rotate_left
    · rw [show isName t = false from hn]
      rfl
    rw [show isName t = true from hn]
    refine (peek_spec (h18.still s1821) 1).mono ?_
    rintro _ w22 ⟨rfl, s22⟩
    have e1 : ((0, t) :: r)[1]? = r[0]? := rfl
    rw [e1]
    refine .inl ⟨_, _, rfl, ?_⟩
    rw [show (decide (((((r[0]?).getD (2, [])).1 : Nat) : Int) = (1 : Int)) && ((decide (((r[0]?).getD (2, [])).2 = [40])) && true)) = isT 1 tOpen r from peek_isT r 1 (by decide)]
    refine bsel_of (fun ho => ?_) (fun ho => ⟨s1821.trans s22, ?_⟩)
    rotate_left
    · rw [ho]
      rfl
    rw [ho]
    refine (peek_spec (h18.still (s1821.trans s22)) 2).mono ?_
    rintro _ w23 ⟨rfl, s23⟩
    have e2 : ((0, t) :: r)[2]? = r.tail[0]? := by
      cases r with
      | nil => rfl
      | cons a r => cases r <;> rfl
    rw [e2]
    refine .inl ⟨_, _, rfl, (s1821.trans s22).trans s23, ?_⟩
    rw [show (decide (((((r.tail[0]?).getD (2, [])).1 : Nat) : Int) = (1 : Int)) && ((decide (((r.tail[0]?).getD (2, [])).2 = [41])) && true)) = isT 1 tShut r.tail from peek_isT r.tail 1 (by decide)]
    rfl
  rintro b _ w24 ⟨s24, rfl⟩
  have s1824 := s18.trans s24
  have h24 := h18.still s24
  have res24 := res3.still s1824
  refine bsel_of (fun hf => ?_) (fun hf => ⟨(s13.trans s1824).only, res24, h24, hrb, hf⟩)
  have hl24 := res24.lt
  rw [if_pos hf]
  obtain ⟨x, y, z, r, rfl⟩ : ∃ x y z r, s = x :: y :: z :: r := by
    match s, hf with
    | (k, t) :: r, hf =>
      have hf : (decide (k = 0) && isName t && isT 1 tOpen r && isT 1 tShut r.tail) = true := hf
      rw [Bool.and_eq_true, Bool.and_eq_true] at hf
      have a1 := isT_cons hf.1.2
      have a2 := isT_cons hf.2
      exact ⟨_, _, _, _, by rw [a1, a2]⟩
  refine (function_of hL hc h24 hb).mono ?_
  rintro e28 w28 ⟨o28, hp⟩
  have o028 := (s13.trans s1824).only.tr o28
  cases hr : defF (lvS L).1 (x :: y :: z :: r) with
  | bad k =>
    rw [hr] at hp
    exact .inr ⟨_, hp, o028, rfl⟩
  | ok y =>
  rw [hr] at hp
  obtain ⟨cs, rfl, hnd, h28⟩ := hp
  obtain ⟨pw, cw, pa, ca, pr, cr, po, co, pk, ck, rfl, _⟩ := hnd.outs
  refine .inl ⟨_, _, _, _, _, _, _, _, _, _, _, _, _, _, _, _, _, _, rfl, stK (res24.mod o28 (by omega)) (by simp) (by simp [Value.oneCell']) fun w' r' m' z' => ?_⟩
  refine ⟨_, _, _, _, _, _, _, _, _, _, _, _, _, _, _, _, _, _, r'.lget rfl, r'.lget rfl, r'.lget rfl, r'.lget rfl, r'.lget rfl, r'.lget rfl, r'.lget rfl, r'.lget rfl, Mod.trans o028 m' (fun _ h => h) (fun i hi e => by omega), _, rfl, ?_, h28.mod m' fun j hj e => by omega⟩
  exact (hnd.mod m' fun k hk e => by omega).mono fun k hk => ⟨by omega, by omega⟩
theorem sy_levels : ∀ L, L < 100 → CmdS L ∧ BrS L
  | 0, _ => ⟨cmd_none, fun _ _ _ _ _ _ h => absurd rfl h⟩
  | L + 1, hL => by
    obtain ⟨h1, h2⟩ := sy_levels L (by omega)
    have hb := branch_of (by omega) h1 h2
    exact ⟨command_of (by omega) h1 hb, hb⟩
end Go.Proofs.YtcoeiiihmpnagaaGreatDoor
namespace Go.Proofs.YtcoeiiihmpnagaaGreatDoor
open Go.RowKit Vc
theorem parse_idle (p q : Addr) (w : World) :
    CallsD Tryz.prog 12 #[.pointer (some p), .pointer (some q)] .returning w fun e u' w' => e = .returned (.tuple #[]) ∧ u' = .returning ∧ w' = w := by
  refine callsD_of_wpS Tryz.func12 rfl fun c₀ cs hu => ?_
  apply wpS_seq
  apply wpS_region
  simp [wpOpsS, go_sem, recoverD, hu, Tryz.ntmps12, Exit.thenS]
  apply wpS_seq
  apply wpS_region
  simp [wpOpsS, go_sem, Tryz.ntmps12, Exit.thenS]
  refine wpS_cond (t := false) (by simp [Act.eval, Array.replicate]) ?_
  simp only [Bool.false_eq_true, if_false]
  refine wpS_of_wp (wp_skip ?_)
  cases c₀
  simp_all [bodyPostS, results, Tryz.results12]
theorem parse_panics (p q : Addr) (n : Int) (w : World) (P : World → Prop) (h : stCells p (fun w1 => stCells q P 0 [.int .i64 n] w1) 0 [(.int .i64 0), (.bool false), (.string (S ([] : List UInt8))), (.slice none 0 0), (.slice none 0 0), (.slice none 0 0), (.slice none 0 0), (.slice none 0 0)] w.drew) :
    CallsD Tryz.prog 12 #[.pointer (some p), .pointer (some q)] (.panicking [{ v := .iface 32 (.int .i64 n), recovered := false }]) w fun e u' w' => e = .returned (.tuple #[]) ∧ settle u' = .returning ∧ P w' := by
  refine callsD_of_wpS Tryz.func12 rfl fun c₀ cs hu => ?_
  apply wpS_seq
  apply wpS_region
  simp [wpOpsS, go_sem, recoverD, hu, Tryz.ntmps12, Exit.thenS]
  apply wpS_seq
  apply wpS_region
  simp [wpOpsS, go_sem, Tryz.ntmps12, Exit.thenS]
  refine wpS_cond (t := true) (by simp [Act.eval, Array.replicate]) ?_
  simp only [if_true]
  refine wpS_of_wp ?_
  have et : (#[Value.pointer (some p), Value.pointer (some q)] ++ ((((Array.replicate 7 undef).setIfInBounds 1 (Value.iface 32 (Value.int IntKind.i64 n))).setIfInBounds 0 (Value.iface 32 (Value.int IntKind.i64 n))).setIfInBounds 2 (Value.iface 32 (Value.int IntKind.i64 n))).setIfInBounds 3 (Value.bool true)) =
      ⟨[.pointer (some p), .pointer (some q), .iface 32 (.int .i64 n), .iface 32 (.int .i64 n), .iface 32 (.int .i64 n), .bool true, undef, undef, undef]⟩ := by rfl
  rw [et]
  refine drawn_sound (P := Tryz.prog) (m := .held) (ds := []) (l := [.pointer (some p), .pointer (some q), .iface 32 (.int .i64 n), .iface 32 (.int .i64 n), .iface 32 (.int .i64 n), .bool true, undef, undef, undef]) (K := fun l' w' => P w') (E := fun _ _ => False) (Eq.mp (α := ∃ Sw : World → Prop, Sw w.drew ∧ (stCells p (fun w1 => stCells q P 0 [.int .i64 n] w1) 0 [(.int .i64 0), (.bool false), (.string (S ([] : List UInt8))), (.slice none 0 0), (.slice none 0 0), (.slice none 0 0), (.slice none 0 0), (.slice none 0 0)] w.drew) ∧ (stCells p (fun w1 => stCells q P 0 [.int .i64 n] w1) 0 [(.int .i64 0), (.bool false), (.string (S ([] : List UInt8))), (.slice none 0 0), (.slice none 0 0), (.slice none 0 0), (.slice none 0 0), (.slice none 0 0)] w.drew)) (by kernel_rfl) ⟨fun _ => True, trivial, h, h⟩) ?_ ?_
  · intro l' w' _ hP
    cases c₀
    simp_all [bodyPostS, results, Tryz.results12, act, settle]
  · intro l' c w' _ h
    exact h.elim
end Go.Proofs.YtcoeiiihmpnagaaGreatDoor
namespace Go.Proofs.YtcoeiiihmpnagaaGreatDoor
open Go.RowKit Vc
variable {w : World}
theorem zero_nde (w : World) (F : Nat → Prop) : NdE w F nd0 zcell := by
  refine ⟨_, _, _, _, none, 0, rfl, ?_, ?_, ?_, ?_, Nat.le_refl _, fun h => absurd rfl h⟩
  · exact ⟨none, 0, rfl, Nat.le_refl _, fun h => absurd rfl h⟩
  · exact ⟨none, 0, rfl, Nat.le_refl _, fun h => absurd rfl h⟩
  · exact ⟨none, 0, rfl, Nat.le_refl _, fun h => absurd rfl h⟩
  · exact ⟨none, 0, rfl, Nat.le_refl _, fun h => absurd rfl h⟩
theorem tc_cs (w : World) (F : Nat → Prop) : ∀ l : List Tok, tkE.Cs w F l (tc l)
  | [] => rfl
  | x :: r => ⟨[.int .i64 (x.1 : Int), .string (S x.2)], tc r, rfl, rfl, tc_cs w F r⟩
theorem toks_at {B : Nat} {v : Value} {l : List Tok} (hv : ∃ p C, v = .slice p l.length C) (h : Owns w B 64 2 v l.length (tc l)) : tkE.At w (fun k => B ≤ k ∧ k < w.heap.size) l v := by
  obtain ⟨p, C, rfl⟩ := hv
  exact Enc.OutX.at (X := fun k => k < w.heap.size) (gn := w.heap.size) ⟨p, C, tc l, rfl, h, fun k hk => ⟨(h.lt k hk).2, Nat.ne_of_lt (h.lt k hk).2⟩, tc_cs _ _ _⟩
theorem parse_done {w4 : World} {ge : Nat} {x : Nd} {cs : List Value} {er : Int} {R : Ending → World → Prop} (hr : Row w4 w.heap.size 31 ⟨cs⟩) (he : Row w4 ge 32 ⟨[.int .i64 er]⟩) (hn : NdE w4 (fun k => w.heap.size ≤ k ∧ k < w4.heap.size) x cs)
    (hR : R (.returned (.tuple #[.agg ⟨cs⟩, .int .i64 er])) w4) : ∃ vKind : Int, ∃ vNot : Bool, ∃ vName : List UInt8, ∃ (vWords : Option Addr) (vWordsL vWordsC : Nat), ∃ (vAssigns : Option Addr) (vAssignsL vAssignsC : Nat), ∃ (vRedirs : Option Addr) (vRedirsL vRedirsC : Nat), ∃ (vOps : Option Addr) (vOpsL vOpsC : Nat), ∃ (vKids : Option Addr) (vKidsL vKidsC : Nat), w4.cell? (Addr.mk w.heap.size 0 none) = some (.int .i64 vKind) ∧ w4.cell? (Addr.mk w.heap.size 1 none) = some (.bool vNot) ∧ w4.cell? (Addr.mk w.heap.size 2 none) = some (.string (S vName)) ∧ w4.cell? (Addr.mk w.heap.size 3 none) = some (.slice vWords vWordsL vWordsC) ∧ w4.cell? (Addr.mk w.heap.size 4 none) = some (.slice vAssigns vAssignsL vAssignsC) ∧ w4.cell? (Addr.mk w.heap.size 5 none) = some (.slice vRedirs vRedirsL vRedirsC) ∧ w4.cell? (Addr.mk w.heap.size 6 none) = some (.slice vOps vOpsL vOpsC) ∧ w4.cell? (Addr.mk w.heap.size 7 none) = some (.slice vKids vKidsL vKidsC) ∧ ∃ v2 : Int, w4.cell? (Addr.mk ge 0 none) = some (.int .i64 v2) ∧ R (.returned (.tuple #[(.agg #[(.int .i64 vKind), (.bool vNot), (.string (S vName)), (.slice vWords vWordsL vWordsC), (.slice vAssigns vAssignsL vAssignsC), (.slice vRedirs vRedirsL vRedirsC), (.slice vOps vOpsL vOpsC), (.slice vKids vKidsL vKidsC)]), (.int .i64 v2)])) w4 := by
  obtain ⟨pw, cw, pa, ca, pr, cr, po, co, pk, ck, rfl, _⟩ := hn.outs
  exact ⟨_, _, _, _, _, _, _, _, _, _, _, _, _, _, _, _, _, _, hr.lget rfl, hr.lget rfl, hr.lget rfl, hr.lget rfl, hr.lget rfl, hr.lget rfl, hr.lget rfl, hr.lget rfl, _, he.lget rfl, hR⟩
def Parsed (w : World) (r : Nd × Int) (e : Ending) (w' : World) : Prop := ∃ cs, e = .returned (.tuple #[.agg ⟨cs⟩, .int .i64 r.2]) ∧ NdE w' (fun k => w.heap.size ≤ k ∧ k < w'.heap.size) r.1 cs ∧ Still w w'
theorem parse_spec (s : Txt) : Calls Tryz.prog fn_syntax_Parse #[.string (S s)] w (Parsed w (parseR s)) := by
  refine syntax_Parse_calls _ _ _ ?_
  refine allocK fun w1 r1 s1 z1 => allocK fun w2 r2 s2 z2 => (tokens_spec s).mono ?_
  rintro _ w3 ⟨p, C, rfl, ho, s3⟩
  have res3 : Row w3 w.heap.size 31 ⟨zcell⟩ := (r1.still s2).still s3
  have er3 := r2.still s3
  have hz3 := s3.size
  refine .inl ⟨_, _, _, _, rfl, stK er3 (by simp) (by simp [Value.oneCell']) fun w4 er4 m4 z4 => ?_⟩
  have er4 : Row w4 w1.heap.size 32 ⟨[.int .i64 (tokRes s).2]⟩ := er4
  have res4 := res3.mod m4 (by omega)
  have s04 : Still w w4 := Mod.trans ((s1.trans s2).trans s3) m4 (fun _ h => h) (fun i hi e => by omega)
  have hat := (toks_at ⟨_, _, rfl⟩ ho)
  refine ⟨_, er4.lget rfl, bsel_of (fun hx => ?_) (fun hx => ?_)⟩
  · have hne : (tokRes s).2 ≠ 0 := by simpa using hx
    have hp : parseR s = (nd0, (tokRes s).2) := by unfold parseR; rw [if_neg hne]
    rw [hp]
    have er4' := er4.still (drew_still w4)
    have res4' := res4.still (drew_still w4)
    refine ⟨fun wq => wq.cell? (Addr.mk w1.heap.size 0 none) = some (.int .i64 (tokRes s).2), er4'.lget rfl, _, fun _ h => h, stK res4' (by simp) (by simp [Value.oneCell']) fun w5 r5 m5 z5 => ?_⟩
    have er5 := er4'.mod m5 (by omega)
    refine ⟨er5.lget rfl, stK er5 (by simp) (by simp [Value.oneCell']) fun w6 er6 m6 z6 => ?_⟩
    have r6 : Row w6 w.heap.size 31 ⟨zcell⟩ := (show Row w5 w.heap.size 31 ⟨zcell⟩ from r5).mod m6 (by omega)
    have s06 : Still w w6 := Mod.trans (Mod.trans (s04.trans (drew_still w4)) m5 (fun _ h => h) (fun i hi e => by omega)) m6 (fun _ h => h) (fun i hi e => by omega)
    exact parse_done r6 er6 (zero_nde _ _) ⟨_, rfl, zero_nde _ _, s06⟩
  · have he0 : (tokRes s).2 = 0 := by simpa using hx
    have hp : parseR s = match scriptF (tokRes s).1 with
      | .ok x => (x, 0)
      | .bad k => (nd0, (k : Int)) := by unfold parseR; rw [if_pos he0]; cases scriptF (tokRes s).1 <;> rfl
    rw [hp]
    have hb := tokRes_tb s
    rw [he0] at er4
    generalize (tokRes s).1 = ts at *
    refine allocK fun w7 r7 s7 z7 => ?_
    have er7 := er4.still s7
    have res7 := res4.still s7
    have hpz : Pz w7 w4.heap.size ts := by
      refine ⟨p, C, r7, ?_⟩
      refine hat.turn (fun k hk => by omega) fun a v ⟨k, hk, ea⟩ hcell => s7.cell (mod_cell m4 (by rw [ea]; omega) hcell)
    have hl := list_of (L := 30) (sy_levels 30 (by omega)).1 hpz hb
    have e1 : (31 - ((30 : Nat) : Int)) = 1 := by decide
    rw [e1] at hl
    refine hl.mono ?_
    rintro e8 w8 ⟨o8, hr8⟩
    have er8 := er7.mod o8 (by omega)
    have res8 := res7.mod o8 (by omega)
    have hz8 := o8.size
    have hz7 : w.heap.size + 2 ≤ w4.heap.size := by omega
    have s08 : Still w w8 := Mod.trans (s04.trans s7) o8 (fun _ h => h) (fun i hi e => by omega)
    have panics : ∀ (k : Nat) (w9 : World) (cs : List Value) (hcs : cs.length = 8), Row w9 w.heap.size 31 ⟨cs⟩ → Row w9 w1.heap.size 32 ⟨[.int .i64 0]⟩ → Still w w9 → ∀ K : Ending → FrameMode → World → Prop, (∀ w', Row w' w.heap.size 31 ⟨zcell⟩ → Row w' w1.heap.size 32 ⟨[.int .i64 (k : Int)]⟩ → Still w w' → ∀ u, settle u = .returning → K (.returned (.tuple #[])) u w') →
        CallsD Tryz.prog fn_syntax_Parse_1 #[.pointer (some ⟨w.heap.size, 0, none⟩), .pointer (some ⟨w1.heap.size, 0, none⟩)] (.panicking (errP k)) w9 K := by
      intro k w9 cs hcs hr9 he9 s9 K hK
      refine (parse_panics ⟨w.heap.size, 0, none⟩ ⟨w1.heap.size, 0, none⟩ k w9 (fun w' => Row w' w.heap.size 31 ⟨zcell⟩ ∧ Row w' w1.heap.size 32 ⟨[.int .i64 (k : Int)]⟩ ∧ Still w w') ?_).mono ?_
      · have hr9' := hr9.still (drew_still w9)
        have he9' := he9.still (drew_still w9)
        obtain ⟨a0, a1, a2, a3, a4, a5, a6, a7, rfl⟩ : ∃ a0 a1 a2 a3 a4 a5 a6 a7, cs = [a0, a1, a2, a3, a4, a5, a6, a7] := by
          match cs, hcs with
          | [a0, a1, a2, a3, a4, a5, a6, a7], _ => exact ⟨_, _, _, _, _, _, _, _, rfl⟩
        refine stK hr9' (by simp) (by simp [Value.oneCell']) fun wa ra ma za => stK (he9'.mod ma (by omega)) (by simp) (by simp [Value.oneCell']) fun wb rb mb zb => ⟨(show Row wa w.heap.size 31 ⟨zcell⟩ from ra).mod mb (by omega), rb, ?_⟩
        exact Mod.trans (Mod.trans (s9.trans (drew_still w9)) ma (fun _ h => h) (fun i hi e => by omega)) mb (fun _ h => h) (fun i hi e => by omega)
      · rintro _ u w' ⟨rfl, hu, h1, h2, h3⟩
        exact hK w' h1 h2 h3 u hu
    have hsf : scriptF ts = (listF (lvS 30).1 ts).and fun x => if x.2 = [] then .ok x.1 else .bad 100 := rfl
    rw [hsf]
    clear hsf
    cases hr : listF (lvS 30).1 ts with
    | bad k =>
      rw [hr] at hr8
      refine .inr ⟨_, hr8, panics k w8 zcell rfl res8 er8 s08 _ fun w' h1 h2 h3 u hu => ?_⟩
      exact ⟨⟨_, rfl⟩, hu, parse_done h1 h2 (zero_nde _ _) ⟨_, rfl, zero_nde _ _, h3⟩⟩
    | ok y =>
    rw [hr] at hr8
    obtain ⟨cs, rfl, hnd, h8⟩ := hr8
    obtain ⟨pw, cw, pa, ca, pr, cr, po, co, pk, ck, rfl, _⟩ := hnd.outs
    rw [Rs.ok_and]
    refine .inl ⟨_, _, _, _, _, _, _, _, _, _, _, _, _, _, _, _, _, _, rfl, stK res8 (by simp) (by simp [Value.oneCell']) fun w9 r9 m9 z9 => ?_⟩
    have er9 := er8.mod m9 (by omega)
    have s09 : Still w w9 := Mod.trans s08 m9 (fun _ h => h) (fun i hi e => by omega)
    have hnd9 := (hnd.mod m9 fun k hk (e : k = w.heap.size) => by have hk1 : w7.heap.size ≤ k := hk.1; omega)
    have hz9 := m9.size
    obtain ⟨a9, c9, hrow8, _⟩ := h8
    have hrow9 := hrow8.mod m9 (by omega)
    have r9 : Row w9 w.heap.size 31 ⟨ncell y.1 (.slice pw y.1.ws.length cw) (.slice pa y.1.as.length ca) (.slice pr y.1.rs.length cr) (.slice po y.1.os.length co) (.slice pk y.1.ks.length ck)⟩ := r9
    refine ⟨a9, y.2.length, c9, hrow9.lget rfl, (swant_spec _).mono ?_⟩
    rintro _ w10 ⟨rfl, rfl⟩
    by_cases hy : y.2 = []
    · rw [if_pos hy]
      rw [if_pos (by rw [hy]; decide)]
      refine .inl ⟨rfl, _, _, _, _, _, _, _, _, _, _, _, _, _, _, _, _, _, _, r9.lget rfl, r9.lget rfl, r9.lget rfl, r9.lget rfl, r9.lget rfl, r9.lget rfl, r9.lget rfl, r9.lget rfl, stK r9 (by simp) (by simp [Value.oneCell']) fun w11 r11 m11 z11 => stK (er9.mod m11 (by omega)) (by simp) (by simp [Value.oneCell']) fun w12 er12 m12 z12 => (parse_idle _ _ _).mono ?_⟩
      rintro _ u w13 ⟨rfl, rfl, rfl⟩
      have r11 : Row w11 w.heap.size 31 ⟨ncell y.1 (.slice pw y.1.ws.length cw) (.slice pa y.1.as.length ca) (.slice pr y.1.rs.length cr) (.slice po y.1.os.length co) (.slice pk y.1.ks.length ck)⟩ := r11
      have hn12 := ((hnd9.mod m11 fun k hk (e : k = w.heap.size) => by have hk1 : w7.heap.size ≤ k := hk.1; omega).mod m12 fun k hk (e : k = w1.heap.size) => by have hk1 : w7.heap.size ≤ k := hk.1; omega).mono (G := fun k => w.heap.size ≤ k ∧ k < w13.heap.size) fun k hk => by
        have hk1 : w7.heap.size ≤ k := hk.1
        have hk2 : k < w8.heap.size := hk.2
        exact ⟨by omega, by omega⟩
      have s12 : Still w w13 := Mod.trans (Mod.trans s09 m11 (fun _ h => h) (fun i hi e => by omega)) m12 (fun _ h => h) (fun i hi e => by omega)
      exact ⟨⟨_, rfl⟩, rfl, parse_done (r11.mod m12 (by omega)) er12 hn12 ⟨_, rfl, hn12, s12⟩⟩
    · rw [if_neg hy]
      have hd : decide (((y.2.length : Nat) : Int) = (0 : Int)) = false := decide_eq_false fun e => hy (List.eq_nil_of_length_eq_zero (by omega))
      rw [hd, if_neg (by decide)]
      refine .inr ⟨_, rfl, panics 100 w10 _ rfl r9 er9 s09 _ fun w' h1 h2 h3 u hu => ?_⟩
      exact ⟨⟨_, rfl⟩, hu, parse_done h1 h2 (zero_nde _ _) ⟨_, rfl, zero_nde _ _, h3⟩⟩
theorem toks_tw : ∀ (n : Nat) (s : Txt), s.length ≤ n → ∀ l, toks s = some l → tw l ≤ 40 * s.length
  | _, [], _, l, h => by
    rw [toks_nil] at h
    obtain rfl := Option.some.inj h
    exact Nat.le_refl _
  | 0, a :: r, hn, _, _ => by simp only [List.length_cons] at hn; omega
  | n + 1, a :: r, hn, l, h => by
    rw [toks_cons] at h
    cases h1 : tokOne a r with
    | none => rw [h1] at h; cases h
    | some y =>
      obtain ⟨l1, t⟩ := y
      rw [h1] at h
      simp only [Option.bind] at h
      cases h2 : toks t with
      | none => rw [h2] at h; cases h
      | some m =>
        rw [h2] at h
        obtain rfl := Option.some.inj h
        have hlen := tokOne_length h1
        simp only [List.length_cons] at hn ⊢
        have i1 := toks_tw n t (by omega) m h2
        rcases tokOne_view h1 with ⟨_, rfl, rfl⟩ | ⟨_, rfl, rfl⟩ | ⟨_, rfl, rfl⟩ | ⟨_, _, rfl, rfl⟩ | ⟨_, _, p, hp, hpt, _, rfl⟩
        · simp only [List.nil_append]; omega
        · simp only [List.nil_append]; omega
        · simp only [List.cons_append, List.nil_append, tw, List.length_cons, List.length_nil]; omega
        · have ho := opLen_le (a := a) (r := r)
          simp only [List.length_cons, List.length_drop] at ho i1
          simp only [List.cons_append, List.nil_append, tw, List.length_take, List.length_cons]
          omega
        · have hl := congrArg List.length hpt
          have h0 : 0 < p.length := List.length_pos_iff.2 hp
          simp only [List.length_cons, List.length_append] at hl
          simp only [List.cons_append, List.nil_append, tw]
          omega
theorem tokRes_tw (s : Txt) : tw (tokRes s).1 ≤ 800000 := by
  unfold tokRes
  split
  · exact Nat.zero_le _
  · split
    · rename_i h20 _ l hl
      have := toks_tw _ s (Nat.le_refl _) l hl
      show tw l ≤ _
      omega
    · exact Nat.zero_le _
theorem parseR_wt (s : Txt) : (parseR s).1.wt ≤ 1000000 := by
  have h := tokRes_tw s
  have h0 : nd0.wt ≤ 1000000 := by decide
  unfold parseR
  split
  · split
    · rename_i x hx
      have := scriptF_wt hx
      show x.wt ≤ _
      omega
    · exact h0
  · exact h0
theorem Enc.Cs.two {α : Type} {e : Enc α} {F : Nat → Prop} {x y : α} {cs ds : List Value} (h1 : e.E w F x cs) (h2 : e.E w F y ds) : e.Cs w F [x, y] (cs ++ ds) := ⟨cs, ds, rfl, h1, ds, [], (List.append_nil _).symm, h2, rfl⟩
def GotN (w : World) (x : Nd) (r : Value → Value) (e : Ending) (w' : World) : Prop := ∃ pw cw pa ca pr cr po co pk ck, e = .returned (r (.agg ⟨ncell x (.slice pw x.ws.length cw) (.slice pa x.as.length ca) (.slice pr x.rs.length cr) (.slice po x.os.length co) (.slice pk x.ks.length ck)⟩)) ∧
  NdE w' (fun k => w.heap.size ≤ k ∧ k < w'.heap.size) x (ncell x (.slice pw x.ws.length cw) (.slice pa x.as.length ca) (.slice pr x.rs.length cr) (.slice po x.os.length co) (.slice pk x.ks.length ck)) ∧ Still w w'
theorem parse_got (s : Txt) : Calls Tryz.prog fn_syntax_Parse #[.string (S s)] w (GotN w (parseR s).1 fun v => .tuple #[v, .int .i64 (parseR s).2]) := by
  refine (parse_spec s).mono ?_
  rintro _ w1 ⟨cs, rfl, hn, s1⟩
  obtain ⟨pw, cw, pa, ca, pr, cr, po, co, pk, ck, rfl, _⟩ := hn.outs
  exact ⟨pw, cw, pa, ca, pr, cr, po, co, pk, ck, rfl, hn, s1⟩
def smp (s : Txt) : Nd := .mk 0 false [] [[tx false s]] [] [] [] []
theorem lawsmp_spec (s : Txt) : Calls Tryz.prog fn_law09_simple #[.string (S s)] w (GotN w (smp s) fun v => v) := by
  refine law09_simple_calls _ _ _ ?_
  refine allocK fun w1 r1 s1 z1 => allocK fun w2 r2 s2 z2 => allocK fun w3 r3 s3 z3 => stK ((r1.still s2).still s3) (by simp) (by simp [Value.oneCell']) fun w4 r4 m4 z4 => ?_
  have s4 : Still w w4 := Mod.trans ((s1.trans s2).trans s3) m4 (fun _ h => h) (fun i hi e => by omega)
  have r2 := (r2.still s3).mod m4 (by omega)
  have r3 := r3.mod m4 (by omega)
  refine ⟨_, _, _, _, _, _, _, _, _, _, _, _, _, _, _, _, _, _, r4.lget rfl, r4.lget rfl, r4.lget rfl, r4.lget rfl, r4.lget rfl, r4.lget rfl, r4.lget rfl, r4.lget rfl, ?_⟩
  refine ⟨_, _, _, _, _, _, _, _, _, _, rfl, ?_, s4⟩
  have e1 : (smp s).ws.length = 1 := rfl
  have hsl : SlAt w4 (fun k => w.heap.size ≤ k ∧ k < w4.heap.size) [tx false s] (.slice (some ⟨w1.heap.size, 0, none⟩) 1 1) :=
    ⟨_, _, rfl, Nat.le_refl _, fun _ => ⟨_, rfl, by show w.heap.size ≤ w1.heap.size ∧ w1.heap.size < w4.heap.size; omega, Cs.at (l := [tx false s]) (xs := pcell (tx false s) (.slice none 0 0)) ⟨.slice none 0 0, [], (List.append_nil _).symm, SlAt.nil _ _ _ _, rfl⟩ fun j u hu => by rw [add_row, Nat.zero_add]; exact r2.lget hu⟩⟩
  exact NdE.of (x := smp s) (Enc.At.row (l := [[tx false s]]) r3 (Enc.Cs.single ⟨_, rfl, hsl⟩) (by show w.heap.size ≤ w2.heap.size ∧ w2.heap.size < w4.heap.size; omega) (Nat.le_refl 1)) (Enc.At.nil _ _ _ _ _) (Enc.At.nil _ _ _ _ _) (Enc.At.nil _ _ _ _ _) (Enc.At.nil _ _ _ _ _)
def ph09 : List Txt := [[105, 102, 32, 97, 59, 32, 116, 104, 101, 110, 32, 98, 59, 32, 102, 105], [59, 32], [10], [119, 104, 105, 108, 101, 32, 97, 59, 32, 100, 111, 32, 98, 59, 32, 100, 111, 110, 101], [102, 111, 114, 32, 120, 32, 105, 110, 32, 97, 32, 98, 59, 32, 100, 111, 32, 99, 59, 32, 100, 111, 110, 101], [99, 97, 115, 101, 32, 36, 120, 32, 105, 110, 32, 40, 97, 32, 124, 32, 98, 41, 32, 99, 59, 59, 32, 100, 41, 32, 101, 115, 97, 99], [40, 32, 97, 59, 32, 98, 32, 41], [123, 32, 97, 59, 32, 125], [32, 38, 38, 32], [32, 124, 32], [33, 32], [102, 40, 41, 32, 123, 32, 97, 59, 32, 125], [120, 61, 36, 121, 32, 97, 32, 62, 32, 111], [32, 62, 32, 111], [105, 102, 32, 97, 59, 32, 116, 104, 101, 110, 32, 98, 59, 32, 101, 108, 105, 102, 32, 99, 59, 32, 116, 104, 101, 110, 32, 100, 59, 32, 101, 108, 115, 101, 32, 101, 59, 32, 102, 105], [117, 110, 116, 105, 108, 32, 97, 59, 32, 100, 111, 32, 98, 59, 32, 100, 111, 110, 101, 32, 62, 62, 32, 111], [102, 111, 114, 32, 121, 10, 100, 111, 32, 97, 59, 32, 100, 111, 110, 101], [32, 124, 124, 32], [101, 99, 104, 111, 32, 39, 98, 32, 99, 39, 32, 36, 123, 120, 58, 45, 100, 125], [62, 32, 111, 32, 105, 102]]
theorem Phrases_spec : Calls Tryz.prog fn_law09_Phrases #[] w (fun e w' => ∃ q, e = .returned (.slice q ph09.length 20) ∧ StrsAt w' q ph09.length ph09 ∧ Still w w') := by
  refine law09_Phrases_calls _ _ ?_
  exact allocK fun w1 r1 s1 z1 => ⟨_, rfl, StrsAt.row (l := ph09) r1, s1⟩
def pN : Nd := .mk 1 true [] [] [] [] [] [smp [97], smp [98]]
def aN : Nd := .mk 2 false [] [] [] [] [[38, 38]] [pN, smp [99]]
def awN : Nd := .mk 3 false [] [] [] [] [] [aN]
theorem parse_aw1 : parseR [33, 32, 97, 32, 124, 32, 98, 32, 38, 38, 32, 99] = (awN, 0) := by kernel_rfl
theorem parse_aw2 : parseR [97, 61, 49, 32, 98, 32, 124, 32, 33, 32, 99] = (nd0, 100) := by kernel_rfl
theorem awake_end {w0 : World} {F1 FP FC : Nat → Prop} {g1 gt gb gk ge : Nat} {c1 cp cc : List Value} {r r1 : Int}
    (h1 : Row w g1 31 ⟨c1⟩) (n1 : NdE w F1 awN c1) (ht : Row w gt 31 ⟨zcell⟩) (hb : Row w gb 9 ⟨[.string (S [38, 38])]⟩) (hk : Row w gk 31 ⟨cp ++ cc⟩) (nP : NdE w FP pN cp) (nC : NdE w FC (smp [99]) cc)
    (he : Row w ge 31 ⟨[.int .i64 2, .bool false, .string (S []), .slice none 0 0, .slice none 0 0, .slice none 0 0, .slice (some ⟨gb, 0, none⟩) 1 1, .slice (some ⟨gk, 0, none⟩) 2 2]⟩)
    (ne : g1 ≠ gt ∧ gb ≠ gt ∧ gk ≠ gt ∧ ge ≠ gt) (hF : ¬ F1 gt ∧ ¬ FP gt ∧ ¬ FC gt) (hs : Still w0 w) (hgt : w0.heap.size ≤ gt) (hr : r = 0) (hr1 : r1 = 100) {R : Ending → World → Prop} (hR : ∀ w', Still w0 w' → R (.returned (.bool true)) w') :
    stCells (Addr.mk gt 0 none) (fun (w17 : World) => bsel (decide (r = (0 : Int))) (∃ vKind1 : Int, ∃ vNot1 : Bool, ∃ vName1 : List UInt8, ∃ (vWords1 : Option Addr) (vWordsL1 vWordsC1 : Nat), ∃ (vAssigns1 : Option Addr) (vAssignsL1 vAssignsC1 : Nat), ∃ (vRedirs1 : Option Addr) (vRedirsL1 vRedirsC1 : Nat), ∃ (vOps1 : Option Addr) (vOpsL1 vOpsC1 : Nat), ∃ (vKids1 : Option Addr) (vKidsL1 vKidsC1 : Nat), w17.cell? (Addr.mk g1 0 none) = some (.int .i64 vKind1) ∧ w17.cell? (Addr.mk g1 1 none) = some (.bool vNot1) ∧ w17.cell? (Addr.mk g1 2 none) = some (.string (S vName1)) ∧ w17.cell? (Addr.mk g1 3 none) = some (.slice vWords1 vWordsL1 vWordsC1) ∧ w17.cell? (Addr.mk g1 4 none) = some (.slice vAssigns1 vAssignsL1 vAssignsC1) ∧ w17.cell? (Addr.mk g1 5 none) = some (.slice vRedirs1 vRedirsL1 vRedirsC1) ∧ w17.cell? (Addr.mk g1 6 none) = some (.slice vOps1 vOpsL1 vOpsC1) ∧ w17.cell? (Addr.mk g1 7 none) = some (.slice vKids1 vKidsL1 vKidsC1) ∧ ∃ vKind2 : Int, ∃ vNot2 : Bool, ∃ vName2 : List UInt8, ∃ (vWords2 : Option Addr) (vWordsL2 vWordsC2 : Nat), ∃ (vAssigns2 : Option Addr) (vAssignsL2 vAssignsC2 : Nat), ∃ (vRedirs2 : Option Addr) (vRedirsL2 vRedirsC2 : Nat), ∃ (vOps2 : Option Addr) (vOpsL2 vOpsC2 : Nat), ∃ (vKids2 : Option Addr) (vKidsL2 vKidsC2 : Nat), w17.cell? (Addr.mk gt 0 none) = some (.int .i64 vKind2) ∧ w17.cell? (Addr.mk gt 1 none) = some (.bool vNot2) ∧ w17.cell? (Addr.mk gt 2 none) = some (.string (S vName2)) ∧ w17.cell? (Addr.mk gt 3 none) = some (.slice vWords2 vWordsL2 vWordsC2) ∧ w17.cell? (Addr.mk gt 4 none) = some (.slice vAssigns2 vAssignsL2 vAssignsC2) ∧ w17.cell? (Addr.mk gt 5 none) = some (.slice vRedirs2 vRedirsL2 vRedirsC2) ∧ w17.cell? (Addr.mk gt 6 none) = some (.slice vOps2 vOpsL2 vOpsC2) ∧ w17.cell? (Addr.mk gt 7 none) = some (.slice vKids2 vKidsL2 vKidsC2) ∧ Calls Tryz.prog fn_ref09_Same #[(.agg #[(.int .i64 vKind1), (.bool vNot1), (.string (S vName1)), (.slice vWords1 vWordsL1 vWordsC1), (.slice vAssigns1 vAssignsL1 vAssignsC1), (.slice vRedirs1 vRedirsL1 vRedirsC1), (.slice vOps1 vOpsL1 vOpsC1), (.slice vKids1 vKidsL1 vKidsC1)]), (.agg #[(.int .i64 vKind2), (.bool vNot2), (.string (S vName2)), (.slice vWords2 vWordsL2 vWordsC2), (.slice vAssigns2 vAssignsL2 vAssignsC2), (.slice vRedirs2 vRedirsL2 vRedirsC2), (.slice vOps2 vOpsL2 vOpsC2), (.slice vKids2 vKidsL2 vKidsC2)])] w17 (fun ed5 w18 => (∃ r2 : Bool, ed5 = .returned (.bool r2) ∧ bsel r2 (R (.returned (.bool (decide (r1 = (100 : Int))))) w18) (R (.returned (.bool false)) w18)) ∨ (∃ ch5, ed5 = .panicked ch5 ∧ R (.panicked ch5) w18))) (R (.returned (.bool false)) w17)) 0 [(.int .i64 (3 : Int)), (.bool false), (.string (S ([] : List UInt8))), (.slice none 0 0), (.slice none 0 0), (.slice none 0 0), (.slice none 0 0), (.slice (some (Addr.mk ge 0 none)) 1 1)] w := by
  subst hr hr1
  obtain ⟨e1, e2, e3, e4⟩ := ne
  obtain ⟨f1, f2, f3⟩ := hF
  obtain ⟨pw, cw, pa, ca, pr, cr, po, co, pk, ck, rfl, _⟩ := n1.outs
  refine stK ht (by simp) (by simp [Value.oneCell']) fun w17 r17 m17 z17 => bsel_of (fun _ => ?_) (fun h => by cases h)
  have h1 := h1.mod m17 e1
  have hb := hb.mod m17 e2
  have hk := hk.mod m17 e3
  have he := he.mod m17 e4
  have n1 := n1.mod m17 fun k hk (e : k = gt) => f1 (e ▸ hk)
  have nP := (nP.mod m17 fun k hk (e : k = gt) => f2 (e ▸ hk)).mono (G := fun _ => True) fun _ _ => trivial
  have nC := (nC.mod m17 fun k hk (e : k = gt) => f3 (e ▸ hk)).mono (G := fun _ => True) fun _ _ => trivial
  have hPC := Enc.Cs.two (e := ndE) (w := w17) (F := fun _ => True) (x := pN) (y := smp [99]) nP nC
  have nA : NdE w17 (fun _ => True) aN _ := NdE.of (x := aN) (Enc.At.nil _ _ _ none 0) (Enc.At.nil _ _ _ none 0) (Enc.At.nil _ _ _ none 0) (Enc.At.row (l := [[38, 38]]) hb (Enc.Cs.single rfl) trivial (Nat.le_refl 1)) (Enc.At.row (l := [pN, smp [99]]) (c := 2) hk hPC trivial (Nat.le_refl 2))
  have nW : NdE w17 (fun _ => True) awN _ := NdE.of (x := awN) (Enc.At.nil _ _ _ none 0) (Enc.At.nil _ _ _ none 0) (Enc.At.nil _ _ _ none 0) (Enc.At.nil _ _ _ none 0) (Enc.At.row (l := [aN]) (c := 1) he (Enc.Cs.single nA) trivial (Nat.le_refl 1))
  refine ⟨_, _, _, _, _, _, _, _, _, _, _, _, _, _, _, _, _, _, h1.lget rfl, h1.lget rfl, h1.lget rfl, h1.lget rfl, h1.lget rfl, h1.lget rfl, h1.lget rfl, h1.lget rfl, ?_⟩
  refine ⟨_, _, _, _, _, _, _, _, _, _, _, _, _, _, _, _, _, _, r17.lget rfl, r17.lget rfl, r17.lget rfl, r17.lget rfl, r17.lget rfl, r17.lget rfl, r17.lget rfl, r17.lget rfl, ?_⟩
  refine (sameN_true n1 nW (by decide)).mono ?_
  rintro _ w18 ⟨rfl, s18⟩
  exact .inl ⟨_, rfl, bsel_of (fun _ => hR _ (Mod.trans (Mod.trans hs m17 (fun _ h => h) (fun i hi e => by omega)) s18 (fun _ h => h) (fun _ _ h => h))) (fun h => by cases h)⟩
set_option maxHeartbeats 4000000 in
theorem awake_spec : Calls Tryz.prog fn_law09_awake #[] w (fun e w' => e = .returned (.bool true) ∧ Still w w') := by
  refine law09_awake_calls _ _ ?_
  have h1 := parse_got (w := w) [33, 32, 97, 32, 124, 32, 98, 32, 38, 38, 32, 99]
  rw [parse_aw1] at h1
  refine h1.mono ?_
  rintro _ w1 ⟨pw1, cw1, pa1, ca1, pr1, cr1, po1, co1, pk1, ck1, rfl, n1, s1⟩
  refine .inl ⟨_, _, _, _, _, _, _, _, _, _, _, _, _, _, _, _, _, _, _, rfl, boxK rfl (by simp [Value.oneCell']) fun w3 r3 s3 z3 => ?_⟩
  have h2 := parse_got (w := w3) [97, 61, 49, 32, 98, 32, 124, 32, 33, 32, 99]
  rw [parse_aw2] at h2
  refine h2.mono ?_
  rintro _ w4 ⟨pw4, cw4, pa4, ca4, pr4, cr4, po4, co4, pk4, ck4, rfl, n4, s4⟩
  refine .inl ⟨_, _, _, _, _, _, _, _, _, _, _, _, _, _, _, _, _, _, _, rfl, boxK rfl (by simp [Value.oneCell']) fun w6 r6 s6 z6 => (lawsmp_spec _).mono ?_⟩
  rintro _ w7 ⟨pw7, cw7, pa7, ca7, pr7, cr7, po7, co7, pk7, ck7, rfl, n7, s7⟩
  refine .inl ⟨_, _, _, _, _, _, _, _, _, _, _, _, _, _, _, _, _, _, rfl, (lawsmp_spec _).mono ?_⟩
  rintro _ w8 ⟨pw8, cw8, pa8, ca8, pr8, cr8, po8, co8, pk8, ck8, rfl, n8, s8⟩
  refine .inl ⟨_, _, _, _, _, _, _, _, _, _, _, _, _, _, _, _, _, _, rfl, allocK fun w9 r9 s9 z9 => boxK rfl (by simp [Value.oneCell']) fun w11 r11 s11 z11 => ?_⟩
  have t11 : Still w w11 := ((((((s1.trans s3).trans s4).trans s6).trans s7).trans s8).trans s9).trans s11
  have tD : Still w11 w11.drew := drew_still w11
  have zD : w11.drew.heap.size = w11.heap.size := rfl
  have zz1 := s1.size
  have zz4 := s4.size
  have zz7 := s7.size
  have zz8 := s8.size
  have hR : ∀ wx w', Still w11 wx → Still wx w' → (fun e w' => e = .returned (.bool true) ∧ Still w w') (Ending.returned (.bool true)) w' := fun wx w' h h' => ⟨rfl, (t11.trans h).trans h'⟩
  have nX : NdE w11 (fun k => k < w11.heap.size) (smp [97]) _ := ((n7.still s8).still s9).still s11 |>.mono fun k hk => by have h2 : k < w7.heap.size := hk.2; omega
  have nY : NdE w11 (fun k => k < w11.heap.size) (smp [98]) _ := (n8.still s9).still s11 |>.mono fun k hk => by have h2 : k < w8.heap.size := hk.2; omega
  have hXY := Enc.Cs.two (e := ndE) (w := w11) (F := fun k => k < w11.heap.size) (x := smp [97]) (y := smp [98]) nX nY
  have nP : NdE w11 (fun k => k < w11.heap.size) pN _ := NdE.of (x := pN) (Enc.At.nil _ _ _ none 0) (Enc.At.nil _ _ _ none 0) (Enc.At.nil _ _ _ none 0) (Enc.At.nil _ _ _ none 0) (Enc.At.row (l := [smp [97], smp [98]]) (c := 2) (r9.still s11) hXY (by show w8.heap.size < w11.heap.size; omega) (Nat.le_refl 2))
  have b1 := ((((((r3.still s4).still s6).still s7).still s8).still s9).still s11)
  have n1 := ((((((n1.still s3).still s4).still s6).still s7).still s8).still s9).still s11
  refine ⟨fun wq => Still w11 wq, tD, _, _, _, _, _, _, _, _, _, _, _, _, _, _, _, _, _, _, fun wq hq => (r11.still hq).lget rfl, fun wq hq => (r11.still hq).lget rfl, fun wq hq => (r11.still hq).lget rfl, fun wq hq => (r11.still hq).lget rfl, fun wq hq => (r11.still hq).lget rfl, fun wq hq => (r11.still hq).lget rfl, fun wq hq => (r11.still hq).lget rfl, fun wq hq => (r11.still hq).lget rfl, ?_⟩
  clear r3 r6 s3 s4 s6 s7 s8 s9 s11 h1 h2 n4 n7 n8 r9
  refine ⟨?_, ?_, ?_⟩
  · refine allocK fun w101 r101 s101 z101 => ?_
    have t101 := tD.trans s101
    refine ⟨t101, ?_⟩
    refine ⟨?_, ?_⟩
    · refine (lawsmp_spec [99]).mono ?_
      rintro _ w102 ⟨pw102, cw102, pa102, ca102, pr102, cr102, po102, co102, pk102, ck102, rfl, n102, s102⟩
      have z102 := s102.size
      have t102 := t101.trans s102
      refine .inl ⟨_, _, _, _, _, _, _, _, _, _, _, _, _, _, _, _, _, _, rfl, t102, ?_⟩
      refine ⟨?_, ?_⟩
      · refine allocK fun w103 r103 s103 z103 => ?_
        have t103 := t102.trans s103
        refine ⟨?_, ?_⟩
        · refine allocK fun w104 r104 s104 z104 => ?_
          have t104 := t103.trans s104
          refine allocK fun w105 r105 s105 z105 => ?_
          have t105 := t104.trans s105
          refine ⟨t105, ?_⟩
          exact awake_end (R := fun e v => e = .returned (.bool true) ∧ Still w v) (w0 := w11) (FP := fun k => k < w11.heap.size) (FC := fun k => w101.heap.size ≤ k ∧ k < w102.heap.size) (b1.still (((((tD.trans s101).trans s102).trans s103).trans s104).trans s105)) (n1.still (((((tD.trans s101).trans s102).trans s103).trans s104).trans s105)) r105 (r101.still (((s102.trans s103).trans s104).trans s105)) (r103.still (s104.trans s105)) (nP.still (((((tD.trans s101).trans s102).trans s103).trans s104).trans s105)) (n102.still ((s103.trans s104).trans s105)) (r104.still s105) ⟨by omega, by omega, by omega, by omega⟩ ⟨fun h => by have := h.2; omega, by omega, by omega⟩ t105 (by omega) rfl rfl fun w' h => hR _ w' (Still.refl _) h
        · refine allocK fun w106 r106 s106 z106 => ?_
          have t106 := t103.trans s106
          refine ⟨t106, ?_⟩
          refine allocK fun w107 r107 s107 z107 => ?_
          have t107 := t106.trans s107
          exact awake_end (R := fun e v => e = .returned (.bool true) ∧ Still w v) (w0 := w11) (FP := fun k => k < w11.heap.size) (FC := fun k => w101.heap.size ≤ k ∧ k < w102.heap.size) (b1.still (((((tD.trans s101).trans s102).trans s103).trans s106).trans s107)) (n1.still (((((tD.trans s101).trans s102).trans s103).trans s106).trans s107)) (r106.still s107) (r101.still (((s102.trans s103).trans s106).trans s107)) (r103.still (s106.trans s107)) (nP.still (((((tD.trans s101).trans s102).trans s103).trans s106).trans s107)) (n102.still ((s103.trans s106).trans s107)) r107 ⟨by omega, by omega, by omega, by omega⟩ ⟨fun h => by have := h.2; omega, by omega, by omega⟩ t107 (by omega) rfl rfl fun w' h => hR _ w' (Still.refl _) h
      · refine allocK fun w108 r108 s108 z108 => ?_
        have t108 := t102.trans s108
        refine ⟨t108, ?_⟩
        refine allocK fun w109 r109 s109 z109 => ?_
        have t109 := t108.trans s109
        refine allocK fun w110 r110 s110 z110 => ?_
        have t110 := t109.trans s110
        exact awake_end (R := fun e v => e = .returned (.bool true) ∧ Still w v) (w0 := w11) (FP := fun k => k < w11.heap.size) (FC := fun k => w101.heap.size ≤ k ∧ k < w102.heap.size) (b1.still (((((tD.trans s101).trans s102).trans s108).trans s109).trans s110)) (n1.still (((((tD.trans s101).trans s102).trans s108).trans s109).trans s110)) (r108.still (s109.trans s110)) (r101.still (((s102.trans s108).trans s109).trans s110)) (r109.still s110) (nP.still (((((tD.trans s101).trans s102).trans s108).trans s109).trans s110)) (n102.still ((s108.trans s109).trans s110)) r110 ⟨by omega, by omega, by omega, by omega⟩ ⟨fun h => by have := h.2; omega, by omega, by omega⟩ t110 (by omega) rfl rfl fun w' h => hR _ w' (Still.refl _) h
    · refine allocK fun w111 r111 s111 z111 => ?_
      have t111 := t101.trans s111
      refine ⟨t111, ?_⟩
      refine (lawsmp_spec [99]).mono ?_
      rintro _ w112 ⟨pw112, cw112, pa112, ca112, pr112, cr112, po112, co112, pk112, ck112, rfl, n112, s112⟩
      have z112 := s112.size
      have t112 := t111.trans s112
      refine .inl ⟨_, _, _, _, _, _, _, _, _, _, _, _, _, _, _, _, _, _, rfl, t112, ?_⟩
      refine allocK fun w113 r113 s113 z113 => ?_
      have t113 := t112.trans s113
      refine allocK fun w114 r114 s114 z114 => ?_
      have t114 := t113.trans s114
      exact awake_end (R := fun e v => e = .returned (.bool true) ∧ Still w v) (w0 := w11) (FP := fun k => k < w11.heap.size) (FC := fun k => w111.heap.size ≤ k ∧ k < w112.heap.size) (b1.still (((((tD.trans s101).trans s111).trans s112).trans s113).trans s114)) (n1.still (((((tD.trans s101).trans s111).trans s112).trans s113).trans s114)) (r111.still ((s112.trans s113).trans s114)) (r101.still (((s111.trans s112).trans s113).trans s114)) (r113.still s114) (nP.still (((((tD.trans s101).trans s111).trans s112).trans s113).trans s114)) (n112.still (s113.trans s114)) r114 ⟨by omega, by omega, by omega, by omega⟩ ⟨fun h => by have := h.2; omega, by omega, by omega⟩ t114 (by omega) rfl rfl fun w' h => hR _ w' (Still.refl _) h
  · refine (lawsmp_spec [99]).mono ?_
    rintro _ w115 ⟨pw115, cw115, pa115, ca115, pr115, cr115, po115, co115, pk115, ck115, rfl, n115, s115⟩
    have z115 := s115.size
    have t115 := tD.trans s115
    refine .inl ⟨_, _, _, _, _, _, _, _, _, _, _, _, _, _, _, _, _, _, rfl, t115, ?_⟩
    refine ⟨?_, ?_, ?_⟩
    · refine allocK fun w116 r116 s116 z116 => ?_
      have t116 := t115.trans s116
      refine ⟨t116, ?_⟩
      refine ⟨?_, ?_⟩
      · refine allocK fun w117 r117 s117 z117 => ?_
        have t117 := t116.trans s117
        refine ⟨?_, ?_⟩
        · refine allocK fun w118 r118 s118 z118 => ?_
          have t118 := t117.trans s118
          refine allocK fun w119 r119 s119 z119 => ?_
          have t119 := t118.trans s119
          refine ⟨t119, ?_⟩
          exact awake_end (R := fun e v => e = .returned (.bool true) ∧ Still w v) (w0 := w11) (FP := fun k => k < w11.heap.size) (FC := fun k => w11.drew.heap.size ≤ k ∧ k < w115.heap.size) (b1.still (((((tD.trans s115).trans s116).trans s117).trans s118).trans s119)) (n1.still (((((tD.trans s115).trans s116).trans s117).trans s118).trans s119)) r119 (r116.still ((s117.trans s118).trans s119)) (r117.still (s118.trans s119)) (nP.still (((((tD.trans s115).trans s116).trans s117).trans s118).trans s119)) (n115.still (((s116.trans s117).trans s118).trans s119)) (r118.still s119) ⟨by omega, by omega, by omega, by omega⟩ ⟨fun h => by have := h.2; omega, by omega, by omega⟩ t119 (by omega) rfl rfl fun w' h => hR _ w' (Still.refl _) h
        · refine allocK fun w120 r120 s120 z120 => ?_
          have t120 := t117.trans s120
          refine ⟨t120, ?_⟩
          refine allocK fun w121 r121 s121 z121 => ?_
          have t121 := t120.trans s121
          exact awake_end (R := fun e v => e = .returned (.bool true) ∧ Still w v) (w0 := w11) (FP := fun k => k < w11.heap.size) (FC := fun k => w11.drew.heap.size ≤ k ∧ k < w115.heap.size) (b1.still (((((tD.trans s115).trans s116).trans s117).trans s120).trans s121)) (n1.still (((((tD.trans s115).trans s116).trans s117).trans s120).trans s121)) (r120.still s121) (r116.still ((s117.trans s120).trans s121)) (r117.still (s120.trans s121)) (nP.still (((((tD.trans s115).trans s116).trans s117).trans s120).trans s121)) (n115.still (((s116.trans s117).trans s120).trans s121)) r121 ⟨by omega, by omega, by omega, by omega⟩ ⟨fun h => by have := h.2; omega, by omega, by omega⟩ t121 (by omega) rfl rfl fun w' h => hR _ w' (Still.refl _) h
      · refine allocK fun w122 r122 s122 z122 => ?_
        have t122 := t116.trans s122
        refine ⟨t122, ?_⟩
        refine allocK fun w123 r123 s123 z123 => ?_
        have t123 := t122.trans s123
        refine allocK fun w124 r124 s124 z124 => ?_
        have t124 := t123.trans s124
        exact awake_end (R := fun e v => e = .returned (.bool true) ∧ Still w v) (w0 := w11) (FP := fun k => k < w11.heap.size) (FC := fun k => w11.drew.heap.size ≤ k ∧ k < w115.heap.size) (b1.still (((((tD.trans s115).trans s116).trans s122).trans s123).trans s124)) (n1.still (((((tD.trans s115).trans s116).trans s122).trans s123).trans s124)) (r122.still (s123.trans s124)) (r116.still ((s122.trans s123).trans s124)) (r123.still s124) (nP.still (((((tD.trans s115).trans s116).trans s122).trans s123).trans s124)) (n115.still (((s116.trans s122).trans s123).trans s124)) r124 ⟨by omega, by omega, by omega, by omega⟩ ⟨fun h => by have := h.2; omega, by omega, by omega⟩ t124 (by omega) rfl rfl fun w' h => hR _ w' (Still.refl _) h
    · refine allocK fun w125 r125 s125 z125 => ?_
      have t125 := t115.trans s125
      refine ⟨?_, ?_⟩
      · refine allocK fun w126 r126 s126 z126 => ?_
        have t126 := t125.trans s126
        refine ⟨t126, ?_⟩
        refine ⟨?_, ?_⟩
        · refine allocK fun w127 r127 s127 z127 => ?_
          have t127 := t126.trans s127
          refine allocK fun w128 r128 s128 z128 => ?_
          have t128 := t127.trans s128
          refine ⟨t128, ?_⟩
          exact awake_end (R := fun e v => e = .returned (.bool true) ∧ Still w v) (w0 := w11) (FP := fun k => k < w11.heap.size) (FC := fun k => w11.drew.heap.size ≤ k ∧ k < w115.heap.size) (b1.still (((((tD.trans s115).trans s125).trans s126).trans s127).trans s128)) (n1.still (((((tD.trans s115).trans s125).trans s126).trans s127).trans s128)) r128 (r126.still (s127.trans s128)) (r125.still ((s126.trans s127).trans s128)) (nP.still (((((tD.trans s115).trans s125).trans s126).trans s127).trans s128)) (n115.still (((s125.trans s126).trans s127).trans s128)) (r127.still s128) ⟨by omega, by omega, by omega, by omega⟩ ⟨fun h => by have := h.2; omega, by omega, by omega⟩ t128 (by omega) rfl rfl fun w' h => hR _ w' (Still.refl _) h
        · refine allocK fun w129 r129 s129 z129 => ?_
          have t129 := t126.trans s129
          refine ⟨t129, ?_⟩
          refine allocK fun w130 r130 s130 z130 => ?_
          have t130 := t129.trans s130
          exact awake_end (R := fun e v => e = .returned (.bool true) ∧ Still w v) (w0 := w11) (FP := fun k => k < w11.heap.size) (FC := fun k => w11.drew.heap.size ≤ k ∧ k < w115.heap.size) (b1.still (((((tD.trans s115).trans s125).trans s126).trans s129).trans s130)) (n1.still (((((tD.trans s115).trans s125).trans s126).trans s129).trans s130)) (r129.still s130) (r126.still (s129.trans s130)) (r125.still ((s126.trans s129).trans s130)) (nP.still (((((tD.trans s115).trans s125).trans s126).trans s129).trans s130)) (n115.still (((s125.trans s126).trans s129).trans s130)) r130 ⟨by omega, by omega, by omega, by omega⟩ ⟨fun h => by have := h.2; omega, by omega, by omega⟩ t130 (by omega) rfl rfl fun w' h => hR _ w' (Still.refl _) h
      · refine allocK fun w131 r131 s131 z131 => ?_
        have t131 := t125.trans s131
        refine ⟨t131, ?_⟩
        refine allocK fun w132 r132 s132 z132 => ?_
        have t132 := t131.trans s132
        refine ⟨t132, ?_⟩
        refine allocK fun w133 r133 s133 z133 => ?_
        have t133 := t132.trans s133
        exact awake_end (R := fun e v => e = .returned (.bool true) ∧ Still w v) (w0 := w11) (FP := fun k => k < w11.heap.size) (FC := fun k => w11.drew.heap.size ≤ k ∧ k < w115.heap.size) (b1.still (((((tD.trans s115).trans s125).trans s131).trans s132).trans s133)) (n1.still (((((tD.trans s115).trans s125).trans s131).trans s132).trans s133)) (r131.still (s132.trans s133)) (r132.still s133) (r125.still ((s131.trans s132).trans s133)) (nP.still (((((tD.trans s115).trans s125).trans s131).trans s132).trans s133)) (n115.still (((s125.trans s131).trans s132).trans s133)) r133 ⟨by omega, by omega, by omega, by omega⟩ ⟨fun h => by have := h.2; omega, by omega, by omega⟩ t133 (by omega) rfl rfl fun w' h => hR _ w' (Still.refl _) h
    · refine allocK fun w134 r134 s134 z134 => ?_
      have t134 := t115.trans s134
      refine ⟨t134, ?_⟩
      refine ⟨?_, ?_⟩
      · refine allocK fun w135 r135 s135 z135 => ?_
        have t135 := t134.trans s135
        refine ⟨t135, ?_⟩
        refine allocK fun w136 r136 s136 z136 => ?_
        have t136 := t135.trans s136
        refine allocK fun w137 r137 s137 z137 => ?_
        have t137 := t136.trans s137
        exact awake_end (R := fun e v => e = .returned (.bool true) ∧ Still w v) (w0 := w11) (FP := fun k => k < w11.heap.size) (FC := fun k => w11.drew.heap.size ≤ k ∧ k < w115.heap.size) (b1.still (((((tD.trans s115).trans s134).trans s135).trans s136).trans s137)) (n1.still (((((tD.trans s115).trans s134).trans s135).trans s136).trans s137)) (r134.still ((s135.trans s136).trans s137)) (r135.still (s136.trans s137)) (r136.still s137) (nP.still (((((tD.trans s115).trans s134).trans s135).trans s136).trans s137)) (n115.still (((s134.trans s135).trans s136).trans s137)) r137 ⟨by omega, by omega, by omega, by omega⟩ ⟨fun h => by have := h.2; omega, by omega, by omega⟩ t137 (by omega) rfl rfl fun w' h => hR _ w' (Still.refl _) h
      · refine allocK fun w138 r138 s138 z138 => ?_
        have t138 := t134.trans s138
        refine allocK fun w139 r139 s139 z139 => ?_
        have t139 := t138.trans s139
        refine ⟨t139, ?_⟩
        refine allocK fun w140 r140 s140 z140 => ?_
        have t140 := t139.trans s140
        exact awake_end (R := fun e v => e = .returned (.bool true) ∧ Still w v) (w0 := w11) (FP := fun k => k < w11.heap.size) (FC := fun k => w11.drew.heap.size ≤ k ∧ k < w115.heap.size) (b1.still (((((tD.trans s115).trans s134).trans s138).trans s139).trans s140)) (n1.still (((((tD.trans s115).trans s134).trans s138).trans s139).trans s140)) (r134.still ((s138.trans s139).trans s140)) (r139.still s140) (r138.still (s139.trans s140)) (nP.still (((((tD.trans s115).trans s134).trans s138).trans s139).trans s140)) (n115.still (((s134.trans s138).trans s139).trans s140)) r140 ⟨by omega, by omega, by omega, by omega⟩ ⟨fun h => by have := h.2; omega, by omega, by omega⟩ t140 (by omega) rfl rfl fun w' h => hR _ w' (Still.refl _) h
  · refine allocK fun w141 r141 s141 z141 => ?_
    have t141 := tD.trans s141
    refine ⟨t141, ?_⟩
    refine ⟨?_, ?_⟩
    · refine allocK fun w142 r142 s142 z142 => ?_
      have t142 := t141.trans s142
      refine ⟨t142, ?_⟩
      refine (lawsmp_spec [99]).mono ?_
      rintro _ w143 ⟨pw143, cw143, pa143, ca143, pr143, cr143, po143, co143, pk143, ck143, rfl, n143, s143⟩
      have z143 := s143.size
      have t143 := t142.trans s143
      refine .inl ⟨_, _, _, _, _, _, _, _, _, _, _, _, _, _, _, _, _, _, rfl, t143, ?_⟩
      refine allocK fun w144 r144 s144 z144 => ?_
      have t144 := t143.trans s144
      refine allocK fun w145 r145 s145 z145 => ?_
      have t145 := t144.trans s145
      exact awake_end (R := fun e v => e = .returned (.bool true) ∧ Still w v) (w0 := w11) (FP := fun k => k < w11.heap.size) (FC := fun k => w142.heap.size ≤ k ∧ k < w143.heap.size) (b1.still (((((tD.trans s141).trans s142).trans s143).trans s144).trans s145)) (n1.still (((((tD.trans s141).trans s142).trans s143).trans s144).trans s145)) (r141.still (((s142.trans s143).trans s144).trans s145)) (r142.still ((s143.trans s144).trans s145)) (r144.still s145) (nP.still (((((tD.trans s141).trans s142).trans s143).trans s144).trans s145)) (n143.still (s144.trans s145)) r145 ⟨by omega, by omega, by omega, by omega⟩ ⟨fun h => by have := h.2; omega, by omega, by omega⟩ t145 (by omega) rfl rfl fun w' h => hR _ w' (Still.refl _) h
    · refine (lawsmp_spec [99]).mono ?_
      rintro _ w146 ⟨pw146, cw146, pa146, ca146, pr146, cr146, po146, co146, pk146, ck146, rfl, n146, s146⟩
      have z146 := s146.size
      have t146 := t141.trans s146
      refine .inl ⟨_, _, _, _, _, _, _, _, _, _, _, _, _, _, _, _, _, _, rfl, t146, ?_⟩
      refine ⟨?_, ?_⟩
      · refine allocK fun w147 r147 s147 z147 => ?_
        have t147 := t146.trans s147
        refine ⟨t147, ?_⟩
        refine allocK fun w148 r148 s148 z148 => ?_
        have t148 := t147.trans s148
        refine allocK fun w149 r149 s149 z149 => ?_
        have t149 := t148.trans s149
        exact awake_end (R := fun e v => e = .returned (.bool true) ∧ Still w v) (w0 := w11) (FP := fun k => k < w11.heap.size) (FC := fun k => w141.heap.size ≤ k ∧ k < w146.heap.size) (b1.still (((((tD.trans s141).trans s146).trans s147).trans s148).trans s149)) (n1.still (((((tD.trans s141).trans s146).trans s147).trans s148).trans s149)) (r141.still (((s146.trans s147).trans s148).trans s149)) (r147.still (s148.trans s149)) (r148.still s149) (nP.still (((((tD.trans s141).trans s146).trans s147).trans s148).trans s149)) (n146.still ((s147.trans s148).trans s149)) r149 ⟨by omega, by omega, by omega, by omega⟩ ⟨fun h => by have := h.2; omega, by omega, by omega⟩ t149 (by omega) rfl rfl fun w' h => hR _ w' (Still.refl _) h
      · refine allocK fun w150 r150 s150 z150 => ?_
        have t150 := t146.trans s150
        refine allocK fun w151 r151 s151 z151 => ?_
        have t151 := t150.trans s151
        refine ⟨t151, ?_⟩
        refine allocK fun w152 r152 s152 z152 => ?_
        have t152 := t151.trans s152
        exact awake_end (R := fun e v => e = .returned (.bool true) ∧ Still w v) (w0 := w11) (FP := fun k => k < w11.heap.size) (FC := fun k => w141.heap.size ≤ k ∧ k < w146.heap.size) (b1.still (((((tD.trans s141).trans s146).trans s150).trans s151).trans s152)) (n1.still (((((tD.trans s141).trans s146).trans s150).trans s151).trans s152)) (r141.still (((s146.trans s150).trans s151).trans s152)) (r151.still s152) (r150.still (s151.trans s152)) (nP.still (((((tD.trans s141).trans s146).trans s150).trans s151).trans s152)) (n146.still ((s150.trans s151).trans s152)) r152 ⟨by omega, by omega, by omega, by omega⟩ ⟨fun h => by have := h.2; omega, by omega, by omega⟩ t152 (by omega) rfl rfl fun w' h => hR _ w' (Still.refl _) h
def Rz (w : World) (g : Nat) (s : Ts) : Prop := ∃ (all : Ts) (a : Option Addr) (c n : Nat), s = all.drop n ∧ n ≤ all.length ∧ all.length ≤ 20000 ∧ Row w g 49 ⟨[.slice a all.length c, .int .i64 (n : Int)]⟩ ∧ tkE.At w (fun k => k < g) all (.slice a all.length c)
theorem Rz.lt {g : Nat} {s : Ts} (h : Rz w g s) : g < w.heap.size := by
  obtain ⟨_, _, _, _, _, _, _, h, _⟩ := h
  exact h.lt
theorem Rz.mod {S : Nat → Prop} {g : Nat} {s : Ts} {w' : World} (h : Rz w g s) (hm : Mod S w w') (hS : ∀ k, k ≤ g → ¬ S k) : Rz w' g s := by
  obtain ⟨all, a, c, n, h1, h2, h3, h4, h5⟩ := h
  exact ⟨all, a, c, n, h1, h2, h3, h4.mod hm (hS g (Nat.le_refl _)), h5.turn (fun _ h => h) fun a v ⟨k, hk, ea⟩ hcell => mod_cell hm (by rw [ea]; exact hS k (Nat.le_of_lt hk)) hcell⟩
theorem Rz.still {g : Nat} {s : Ts} {w' : World} (h : Rz w g s) (hm : Still w w') : Rz w' g s := h.mod hm fun _ _ h => h
def rzLen (g : Nat) (w : World) : Nat := match w.cell? ⟨g, 0, none⟩, w.cell? ⟨g, 1, none⟩ with
  | some (.slice _ l _), some (.int _ n) => l - n.toNat
  | _, _ => 0
theorem Rz.len {g : Nat} {s : Ts} (h : Rz w g s) : rzLen g w = s.length := by
  obtain ⟨all, a, c, n, rfl, _, _, hr, _⟩ := h
  have e0 : w.cell? ⟨g, 0, none⟩ = some (.slice a all.length c) := hr.lget rfl
  have e1 : w.cell? ⟨g, 1, none⟩ = some (.int .i64 (n : Int)) := hr.lget rfl
  unfold rzLen
  rw [e0, e1]
  simp
theorem rzis_spec {g : Nat} {s : Ts} (h : Rz w g s) (k : Nat) (t : Txt) : Calls Tryz.prog fn_ref09_parser_is #[.pointer (some ⟨g, 0, none⟩), .int .i64 (k : Int), .string (S t)] w (fun e w' => e = .returned (.bool (isT k t s)) ∧ Still w w') := by
  refine ref09_parser_is_calls _ _ _ _ _ ?_
  obtain ⟨all, a, c, n, rfl, hn, hl, hr, ht⟩ := h
  refine ⟨(n : Int), hr.lget rfl, a, all.length, c, hr.lget rfl, bsel_of (fun hx => ?_) (fun hx => ⟨?_, drew_still _⟩)⟩
  · have hx : n < all.length := by have := of_decide_eq_true hx; omega
    obtain ⟨b, cs, rfl, _, he, hc⟩ := ht.get (List.getElem?_eq_getElem hx)
    obtain rfl : cs = [.int .i64 (all[n].1 : Int), .string (S all[n].2)] := he
    have hd : all.drop n = all[n] :: all.drop (n + 1) := List.drop_eq_getElem_cons hx
    have hi : isT k t (all.drop n) = (decide (all[n].1 = k) && decide (all[n].2 = t)) := by
      rw [hd]
      show decide (some all[n] = some (k, t)) = _
      rw [← Bool.decide_and]
      exact decide_eq_decide.2 ⟨fun h => by rw [Option.some.inj h]; exact ⟨rfl, rfl⟩, fun h => congrArg some (Prod.ext h.1 h.2)⟩
    rw [hi]
    refine ⟨some b, all.length, c, hr.lget rfl, (n : Int), hr.lget rfl, by omega, by omega, (all[n].1 : Int), hc.zero, bsel_of (fun hk => ?_) (fun hk => ⟨?_, drew_still _⟩)⟩
    · have hk : all[n].1 = k := by have := of_decide_eq_true hk; omega
      refine ⟨some b, all.length, c, hr.lget rfl, (n : Int), hr.lget rfl, by omega, by omega, all[n].2, hc 1 _ rfl, ?_, drew_still _⟩
      rw [decide_eq_true hk, Bool.true_and]
    · have hk : ¬ all[n].1 = k := by have := of_decide_eq_false hk; omega
      rw [decide_eq_false hk, Bool.false_and]
  · have hx : all.length ≤ n := by have := of_decide_eq_false hx; omega
    rw [List.drop_eq_nil_of_le hx]
    rfl
theorem Rz.step {g : Nat} {x : Nat × Txt} {r : Ts} (h : Rz w g (x :: r)) {K : World → Prop} (hK : ∀ w', Only g w w' → Rz w' g r → K w') : ∃ v : Int, w.cell? (Addr.mk g 1 none) = some (.int .i64 v) ∧ stCells (Addr.mk g 1 none) (fun w2 => K w2) 0 [(.int .i64 (IntKind.i64.wrap (v + 1)))] w := by
  obtain ⟨all, a, c, n, he, hn, hl, hr, ht⟩ := h
  have hx : n < all.length := by
    rcases Nat.lt_or_ge n all.length with h | h
    · exact h
    · rw [List.drop_eq_nil_of_le h] at he
      cases he
  have hd : all.drop n = all[n] :: all.drop (n + 1) := List.drop_eq_getElem_cons hx
  rw [hd] at he
  injection he with _ he
  refine ⟨(n : Int), hr.lget rfl, stK hr (by simp) (by simp [Value.oneCell']) fun w' r' m' z' => hK w' m' ?_⟩
  have e1 : IntKind.i64.wrap ((n : Int) + 1) = ((n + 1 : Nat) : Int) := by rw [wrap_i64 (by omega) (by omega)]; omega
  rw [e1] at r'
  exact ⟨all, a, c, n + 1, he, hx, hl, r', ht.turn (fun _ h => h) fun a v ⟨k, hk, ea⟩ hcell => mod_cell m' (by rw [ea]; show ¬ k = g; have : k < g := hk; omega) hcell⟩
theorem rztake_spec {g : Nat} {s : Ts} (h : Rz w g s) (k : Nat) (t : Txt) : Calls Tryz.prog fn_ref09_parser_take #[.pointer (some ⟨g, 0, none⟩), .int .i64 (k : Int), .string (S t)] w (fun e w' => e = .returned (.bool (isT k t s)) ∧ Only g w w' ∧ Rz w' g (if isT k t s = true then s.tail else s)) := by
  refine ref09_parser_take_calls _ _ _ _ _ ?_
  refine (rzis_spec h k t).mono ?_
  rintro _ w1 ⟨rfl, s1⟩
  have h1 := h.still s1
  refine .inl ⟨_, rfl, bsel_of (fun hx => ?_) (fun hx => ⟨rfl, s1.only, by rw [if_neg (by rw [hx]; decide)]; exact h1⟩)⟩
  rw [if_pos hx]
  have e := isT_cons hx
  rw [e] at h1
  exact h1.step fun w2 o2 h2 => ⟨rfl, s1.only.tr o2, h2⟩
theorem rzlines_spec {g : Nat} {s : Ts} (h : Rz w g s) : Calls Tryz.prog fn_ref09_parser_lines #[.pointer (some ⟨g, 0, none⟩)] w (fun e w' => e = .returned (.tuple #[]) ∧ Only g w w' ∧ Rz w' g (linesF s)) := by
  refine ref09_parser_lines_calls _ _ _ ?_
  refine ⟨fun w1 => ∃ s1, Rz w1 g s1 ∧ linesF s1 = linesF s ∧ Only g w w1, rzLen g, ⟨s, h, rfl, Mod.refl _ _⟩, ?_⟩
  rintro _ w1 ⟨s1, h1, e1, o1⟩
  refine (rztake_spec h1 2 [10]).mono ?_
  rintro _ w2 ⟨rfl, o2, h2⟩
  refine .inl ⟨_, rfl, bsel_of (fun hx => ?_) (fun hx => ?_)⟩
  · rw [hx, if_pos rfl] at h2
    have hl := isT_len hx
    refine ⟨⟨_, h2, ?_, Mod.trans o1 o2 (fun _ h => h) (fun _ _ h => h)⟩, by rw [h2.len, h1.len]; omega⟩
    rw [← e1, isT_cons hx]
    simp only [linesF, List.tail_cons]
    rw [if_pos (show ((2, [10]) : Nat × Txt) = lineT from rfl)]
  · rw [hx, if_neg (by decide)] at h2
    refine ⟨rfl, Mod.trans o1 o2 (fun _ h => h) (fun _ _ h => h), ?_⟩
    have : linesF s1 = s1 := by
      cases s1 with
      | nil => rfl
      | cons x r =>
        simp only [linesF]
        rw [if_neg]
        intro e
        rw [e] at hx
        exact absurd hx (by unfold isT; simp [lineT])
    rw [← e1, this]
    exact h2
theorem Rz.at {g : Nat} {x : Nat × Txt} {r : Ts} (h : Rz w g (x :: r)) : ∃ (L c n : Nat) (b : Addr), n < L ∧ L ≤ 20000 ∧ L = n + (x :: r).length ∧ ∀ w', Still w w' → w'.cell? (Addr.mk g 0 none) = some (.slice (some b) L c) ∧ w'.cell? (Addr.mk g 1 none) = some (.int .i64 (n : Int)) ∧ tkE.At w' (fun k => k < g) (x :: r) (.slice (some (b.add (n * 2))) (x :: r).length (x :: r).length) ∧ w'.cell? (b.add (n * 2)) = some (.int .i64 (x.1 : Int)) ∧ w'.cell? ((b.add (n * 2)).add 1) = some (.string (S x.2)) := by
  obtain ⟨all, a, c, n, he, hn, hl, hr, ht⟩ := h
  have hx : n < all.length := by
    rcases Nat.lt_or_ge n all.length with h | h
    · exact h
    · rw [List.drop_eq_nil_of_le h] at he
      cases he
  have hd : all.drop n = all[n] :: all.drop (n + 1) := List.drop_eq_getElem_cons hx
  have hlen := congrArg List.length he
  rw [List.length_drop] at hlen
  obtain ⟨b, cs, rfl, hF, hE, hc⟩ := ht.get (List.getElem?_eq_getElem hx)
  have hxe : x = all[n] := by
    rw [hd] at he
    injection he
  obtain rfl : cs = [.int .i64 (all[n].1 : Int), .string (S all[n].2)] := hE
  refine ⟨all.length, c, n, b, hx, hl, by omega, fun w' hs => ⟨hs.cell (hr.lget rfl), hs.cell (hr.lget rfl), ?_, by rw [hxe]; exact hs.cell hc.zero, by rw [hxe]; exact hs.cell (hc 1 _ rfl)⟩⟩
  obtain ⟨p, c', hv, hle, hne⟩ := ht.still hs
  injection hv with e1 e2 e3
  obtain ⟨b', xs, hb', hF', hCs, hat⟩ := hne (by intro e; rw [e] at hx; exact absurd hx (by simp))
  rw [hb'] at e1
  obtain rfl := Option.some.inj e1
  refine ⟨_, _, rfl, Nat.le_refl _, fun _ => ⟨_, xs.drop (n * 2), rfl, by show (b.add (n * 2)).block < g; unfold Addr.add; split <;> exact hF', ?_, fun j u hu => ?_⟩⟩
  · have key : ∀ (m : Nat) (l : Ts) (ys : List Value), tkE.Cs w' (fun k => k < g) l ys → tkE.Cs w' (fun k => k < g) (l.drop m) (ys.drop (m * 2)) := by
      intro m
      induction m with
      | zero => intro l ys h; exact h
      | succ m ih =>
        intro l ys h
        cases l with
        | nil =>
          have : ys = [] := h
          subst this
          simp only [List.drop_nil]
          rfl
        | cons y l =>
          obtain ⟨cs, zs, rfl, hE, hC⟩ := h
          have hcs : cs = [.int .i64 (y.1 : Int), .string (S y.2)] := hE
          subst hcs
          have := ih l zs hC
          rw [show (m + 1) * 2 = m * 2 + 1 + 1 by omega]
          exact this
    rw [he]
    exact key n all xs hCs
  · rw [List.getElem?_drop] at hu
    have := hat _ _ hu
    rwa [Go.Deep.add_add]
theorem Rz.nil {g : Nat} (h : Rz w g []) : ∃ (a : Option Addr) (L c : Nat), ∀ w', Still w w' → w'.cell? (Addr.mk g 0 none) = some (.slice a L c) ∧ w'.cell? (Addr.mk g 1 none) = some (.int .i64 (L : Int)) := by
  obtain ⟨all, a, c, n, he, hn, hl, hr, ht⟩ := h
  have : n = all.length := by
    have := congrArg List.length he
    rw [List.length_drop] at this
    simp only [List.length_nil] at this
    omega
  subst this
  exact ⟨a, _, c, fun w' hs => ⟨hs.cell (hr.lget rfl), hs.cell (hr.lget rfl)⟩⟩
theorem rzword_spec {g : Nat} {s : Ts} (h : Rz w g s) : Calls Tryz.prog fn_ref09_parser_word #[.pointer (some ⟨g, 0, none⟩)] w (fun e w' => e = .returned (.bool (isW s)) ∧ Still w w') := by
  refine ref09_parser_word_calls _ _ _ ?_
  cases s with
  | nil =>
    obtain ⟨a, L, c, hs⟩ := h.nil
    obtain ⟨h0, h1⟩ := hs w (Still.refl w)
    exact ⟨_, h1, _, _, _, h0, bsel_of (fun hx => absurd (of_decide_eq_true hx) (by omega)) (fun _ => ⟨rfl, drew_still w⟩)⟩
  | cons x r =>
    obtain ⟨L, c, n, b, hn, hl, _, hs⟩ := h.at
    obtain ⟨h0, h1, _, h2, h3⟩ := hs w (Still.refl w)
    refine ⟨_, h1, _, _, _, h0, bsel_of (fun _ => ?_) (fun hx => absurd (show (n : Int) < (L : Int) by omega) (of_decide_eq_false hx))⟩
    refine ⟨_, _, _, h0, _, h1, by omega, by omega, _, h2, ?_, drew_still w⟩
    obtain ⟨k, t⟩ := x
    show _ = Ending.returned (.bool (decide (k = 0)))
    rw [decide_eq_decide.2 (show ((k : Int) = 0) ↔ k = 0 by omega)]
theorem rzredir_spec {g : Nat} {s : Ts} (h : Rz w g s) : Calls Tryz.prog fn_ref09_parser_redir #[.pointer (some ⟨g, 0, none⟩)] w (fun e w' => e = .returned (.bool (redirB s)) ∧ Still w w') := by
  refine ref09_parser_redir_calls _ _ _ ?_
  refine (rzis_spec h 1 tLess).mono ?_
  rintro _ w1 ⟨rfl, s1⟩
  refine .inl ⟨_, rfl, bsel_of (fun hx => ⟨by unfold redirB; rw [hx]; rfl, s1⟩) (fun hx => ?_)⟩
  refine (rzis_spec (h.still s1) 1 tMore).mono ?_
  rintro _ w2 ⟨rfl, s2⟩
  refine .inl ⟨_, rfl, bsel_of (fun hy => ⟨by unfold redirB; rw [hx, hy]; rfl, s1.trans s2⟩) (fun hy => ?_)⟩
  refine (rzis_spec ((h.still s1).still s2) 1 tMore2).mono ?_
  rintro _ w3 ⟨rfl, s3⟩
  exact .inl ⟨_, rfl, by unfold redirB; rw [hx, hy]; rfl, (s1.trans s2).trans s3⟩
def RzW (w : World) (g : Nat) (r : Rs (List Pt × Ts)) (e : Ending) (w' : World) : Prop := Only g w w' ∧ match r with
  | .ok x => ∃ v, e = .returned (.tuple #[v, .int .i64 0]) ∧ SlAt w' (fun k => w.heap.size ≤ k ∧ k < w'.heap.size) x.1 v ∧ Rz w' g x.2
  | .bad k => k ≠ 0 ∧ e = .returned (.tuple #[.slice none 0 0, .int .i64 (k : Int)])
theorem rzparts_spec {g : Nat} {s : Ts} (h : Rz w g s) (hb : TB s) : Calls Tryz.prog fn_ref09_parser_parts #[.pointer (some ⟨g, 0, none⟩)] w (RzW w g (partsF s)) := by
  refine ref09_parser_parts_calls _ _ _ ?_
  refine (rzword_spec h).mono ?_
  rintro _ w1 ⟨rfl, s1⟩
  refine .inl ⟨_, rfl, bsel_of (fun hx => ?_) (fun hx => ?_)⟩
  · have hx : isW s = false := by simpa using hx
    have : partsF s = .bad 100 := by
      match s, hx with
      | [], _ => rfl
      | (k, t) :: r, hx =>
        simp only [partsF]
        rw [if_neg (of_decide_eq_false hx)]
    rw [this]
    exact ⟨s1.only, by decide, rfl⟩
  have hx : isW s = true := by simpa using hx
  obtain ⟨t, r, rfl⟩ : ∃ t r, s = (0, t) :: r := by
    match s, hx with
    | (k, t) :: r, hx => exact ⟨t, r, by rw [show k = 0 from of_decide_eq_true hx]⟩
  obtain ⟨L, c, n, b, hn, hl, _, hs⟩ := h.at
  have hpf : partsF ((0, t) :: r) = (wpL 30 t).and fun l => .ok (l, r) := rfl
  rw [hpf]
  refine ⟨fun wq => Still w wq, s1.trans (drew_still w1), some b, L, c, fun wq hq => (hs wq hq).1, n, fun wq hq => (hs wq hq).2.1, by omega, by omega, t, fun wq hq => (hs wq hq).2.2.2.2, (ref_Parse_spec t hb.head.1).mono ?_⟩
  rintro e2 w2 ⟨hp, s2⟩
  have s02 := (s1.trans (drew_still w1)).trans s2
  have hz1 := s1.size
  have hz2 := s02.size
  have h2 := h.still s02
  cases hw : wpL 30 t with
  | bad j =>
    rw [hw] at hp
    have hj : j ≠ 0 := fun e => wpL_nz 30 t (by rw [hw, e])
    refine .inl ⟨_, _, _, _, hp, h2.step fun w3 o3 h3 => ⟨s02.only.tr o3, hj, rfl⟩⟩
  | ok l =>
    rw [hw] at hp
    obtain ⟨v, rfl, hsl⟩ := hp
    have hsl := hsl.here
    obtain ⟨p, c, rfl⟩ := hsl.form
    refine .inl ⟨_, _, _, _, rfl, h2.step fun w3 o3 h3 => ⟨s02.only.tr o3, _, rfl, ?_, h3⟩⟩
    have hg := h.lt
    have hz3 := o3.size
    have hzd : w1.drew.heap.size = w1.heap.size := rfl
    exact (hsl.mod o3 fun k hk (e : k = g) => by have hk1 : w1.drew.heap.size ≤ k := hk.1; omega).mono fun k hk => by
      have hk1 : w1.drew.heap.size ≤ k := hk.1
      have hk2 : k < w2.heap.size := hk.2
      exact ⟨by omega, by omega⟩
def RzR (w : World) (g : Nat) (r : Rs ((Txt × List Pt) × Ts)) (e : Ending) (w' : World) : Prop := Only g w w' ∧ match r with
  | .ok x => ∃ v, e = .returned (.tuple #[.agg #[.string (S x.1.1), v], .int .i64 0]) ∧ SlAt w' (fun k => w.heap.size ≤ k ∧ k < w'.heap.size) x.1.2 v ∧ Rz w' g x.2
  | .bad k => k ≠ 0 ∧ ∃ t, e = .returned (.tuple #[.agg #[.string (S t), .slice none 0 0], .int .i64 (k : Int)])
theorem rzredirect_spec {g : Nat} {x : Nat × Txt} {r : Ts} (h : Rz w g (x :: r)) (hb : TB (x :: r)) : Calls Tryz.prog fn_ref09_parser_redirect #[.pointer (some ⟨g, 0, none⟩)] w (RzR w g (redirF (x :: r))) := by
  refine ref09_parser_redirect_calls _ _ _ ?_
  have hg := h.lt
  refine allocK fun w1 r1 s1 z1 => ?_
  obtain ⟨L, c, n, b, hn, hl, _, hs⟩ := h.at
  have s01 := s1.trans (drew_still w1)
  refine ⟨fun wq => Still w wq, s01, some b, L, c, fun wq hq => (hs wq hq).1, n, fun wq hq => (hs wq hq).2.1, by omega, by omega, x.2, fun wq hq => (hs wq hq).2.2.2.2, allocK fun w2 r2 s2 z2 => ⟨s01.trans s2, stK r2 (by simp) (by simp [Value.oneCell']) fun w3 r3 m3 z3 => ?_⟩⟩
  have hzd : w1.drew.heap.size = w1.heap.size := rfl
  have s03 : Still w w3 := Mod.trans (s01.trans s2) m3 (fun _ h => h) (fun i hi e => by omega)
  have h3 := h.still s03
  have res3 := ((r1.still (drew_still w1)).still s2).mod m3 (by omega)
  refine h3.step fun w4 o4 h4 => ?_
  have hz4 := o4.size
  have o04 := s03.only.tr o4
  refine (rzparts_spec h4 hb.tail).mono ?_
  rintro e5 w5 ⟨o5, hp⟩
  have hz5 := o5.size
  have o05 := o04.tr o5
  have hrf : redirF (x :: r) = (partsF r).and fun y => .ok ((x.2, y.1), y.2) := by cases x; rfl
  rw [hrf]
  have r3 : Row w3 w1.drew.heap.size 58 ⟨[.string (S x.2), .slice none 0 0]⟩ := r3
  have r5 := (r3.mod o4 (by omega)).mod o5 (by omega)
  have res5 := (res3.mod o4 (by omega)).mod o5 (by omega)
  cases hr : partsF r with
  | bad k =>
    rw [hr] at hp
    obtain ⟨hk, rfl⟩ := hp
    refine .inl ⟨_, _, _, _, rfl, stK r5 (by simp) (by simp [Value.oneCell']) fun w6 r6 m6 z6 => ?_⟩
    refine ⟨_, _, _, _, r6.lget rfl, r6.lget rfl, stK (res5.mod m6 (by omega)) (by simp) (by simp [Value.oneCell']) fun w7 r7 m7 z7 => ⟨_, _, _, _, r7.lget rfl, r7.lget rfl, ?_⟩⟩
    exact ⟨Mod.trans (Mod.trans o05 m6 (fun _ h => h) (fun i hi e => by omega)) m7 (fun _ h => h) (fun i hi e => by omega), hk, _, rfl⟩
  | ok y =>
    rw [hr] at hp
    obtain ⟨v, rfl, hsl, h5⟩ := hp
    obtain ⟨p, c, rfl⟩ := hsl.form
    refine .inl ⟨_, _, _, _, rfl, stK r5 (by simp) (by simp [Value.oneCell']) fun w6 r6 m6 z6 => ?_⟩
    refine ⟨_, _, _, _, r6.lget rfl, r6.lget rfl, stK (res5.mod m6 (by omega)) (by simp) (by simp [Value.oneCell']) fun w7 r7 m7 z7 => ⟨_, _, _, _, r7.lget rfl, r7.lget rfl, ?_⟩⟩
    refine ⟨Mod.trans (Mod.trans o05 m6 (fun _ h => h) (fun i hi e => by omega)) m7 (fun _ h => h) (fun i hi e => by omega), _, rfl, ?_, (h5.mod m6 (by intro k hk e; omega)).mod m7 (by intro k hk e; omega)⟩
    exact ((hsl.mod m6 fun k hk (e : k = _) => by have hk1 : w4.heap.size ≤ k := hk.1; omega).mod m7 fun k hk (e : k = _) => by have hk1 : w4.heap.size ≤ k := hk.1; omega).mono fun k hk => by
      have hk1 : w4.heap.size ≤ k := hk.1
      have hk2 : k < w5.heap.size := hk.2
      exact ⟨by omega, by omega⟩
def resT (t : Txt) : Bool := closL.contains t || decide (t = tBang)
theorem rzreserved_spec (t : Txt) : Calls Tryz.prog fn_ref09_Reserved #[.string (S t)] w (fun e w' => e = .returned (.bool (resT t)) ∧ w' = w) := by
  refine ref09_Reserved_calls _ _ _ ?_
  refine ⟨fun b w1 => w1 = w ∧ b = resT t, bsel_of (fun n1 => ⟨rfl, by have e := of_decide_eq_true n1; subst e; rfl⟩) (fun n1 => bsel_of (fun n2 => ⟨rfl, by have e := of_decide_eq_true n2; subst e; rfl⟩) (fun n2 => bsel_of (fun n3 => ⟨rfl, by have e := of_decide_eq_true n3; subst e; rfl⟩) (fun n3 => bsel_of (fun n4 => ⟨rfl, by have e := of_decide_eq_true n4; subst e; rfl⟩) (fun n4 => bsel_of (fun n5 => ⟨rfl, by have e := of_decide_eq_true n5; subst e; rfl⟩) (fun n5 => bsel_of (fun n6 => ⟨rfl, by have e := of_decide_eq_true n6; subst e; rfl⟩) (fun n6 => bsel_of (fun n7 => ⟨rfl, by have e := of_decide_eq_true n7; subst e; rfl⟩) (fun n7 => bsel_of (fun n8 => ⟨rfl, by have e := of_decide_eq_true n8; subst e; rfl⟩) (fun n8 => ?_)))))))), ?_⟩
  · have hc : closL.contains t = false := by
      cases hc : closL.contains t with
      | false => rfl
      | true =>
        have hm := List.contains_iff_mem.1 hc
        simp only [closL, List.mem_cons, List.not_mem_nil, or_false] at hm
        rcases hm with e | e | e | e | e | e | e | e
        · exact absurd e (of_decide_eq_false n1)
        · exact absurd e (of_decide_eq_false n2)
        · exact absurd e (of_decide_eq_false n3)
        · exact absurd e (of_decide_eq_false n4)
        · exact absurd e (of_decide_eq_false n5)
        · exact absurd e (of_decide_eq_false n6)
        · exact absurd e (of_decide_eq_false n7)
        · exact absurd e (of_decide_eq_false n8)
    exact ⟨rfl, by unfold resT; rw [hc]; rfl⟩
  · rintro b _ w1 ⟨rfl, rfl⟩
    exact bsel_of (fun h => ⟨by rw [h], rfl⟩) (fun h => ⟨by rw [h], rfl⟩)
theorem rzends_spec {g : Nat} {s : Ts} (h : Rz w g s) : Calls Tryz.prog fn_ref09_parser_ends #[.pointer (some ⟨g, 0, none⟩)] w (fun e w' => e = .returned (.bool (endsF s)) ∧ Still w w') := by
  refine ref09_parser_ends_calls _ _ _ ?_
  cases s with
  | nil =>
    obtain ⟨a, L, c, hs⟩ := h.nil
    obtain ⟨h0, h1⟩ := hs w (Still.refl w)
    exact ⟨_, h1, _, _, _, h0, bsel_of (fun _ => ⟨rfl, drew_still w⟩) (fun hx => absurd rfl (of_decide_eq_false hx))⟩
  | cons x r =>
    obtain ⟨L, c, n, b, hn, hl, _, hs⟩ := h.at
    obtain ⟨h0, h1, _, h2, h3⟩ := hs w (Still.refl w)
    obtain ⟨k, t⟩ := x
    refine ⟨_, h1, _, _, _, h0, bsel_of (fun hx => absurd (of_decide_eq_true hx) (by omega)) (fun _ => ?_)⟩
    refine ⟨fun wq => Still w wq, (drew_still w).trans (drew_still _), _, _, _, fun wq hq => (hs wq hq).1, _, fun wq hq => (hs wq hq).2.1, by omega, by omega, _, _, fun wq hq => (hs wq hq).2.2.2.1, fun wq hq => (hs wq hq).2.2.2.2, allocK fun w1 r1 s1 z1 => ⟨((drew_still w).trans (drew_still _)).trans s1, stK r1 (by simp) (by simp [Value.oneCell']) fun w2 r2 m2 z2 => ?_⟩⟩
    have hz : w.drew.drew.heap.size = w.heap.size := rfl
    have s02 : Still w w2 := Mod.trans (((drew_still w).trans (drew_still _)).trans s1) m2 (fun _ h => h) (fun i hi e => by omega)
    have r2 : Row w2 w.drew.drew.heap.size 64 ⟨[.int .i64 (k : Int), .string (S t)]⟩ := r2
    have he : endsF ((k, t) :: r) = ((decide (k = 1) && (decide (t = tShut) || decide (t = tSemi2))) || (decide (k = 0) && closL.contains t)) := rfl
    rw [he]
    refine ⟨_, r2.lget rfl, bsel_of (fun hk => ?_) (fun hk => ?_)⟩
    · have hk : k = 1 := by have := of_decide_eq_true hk; omega
      subst hk
      refine ⟨_, r2.lget rfl, bsel_of (fun ht => ⟨?_, s02⟩) (fun ht => ⟨_, r2.lget rfl, bsel_of (fun ht2 => ⟨?_, s02⟩) (fun ht2 => ⟨_, r2.lget rfl, bsel_of (fun hf => absurd (of_decide_eq_true hf) (by decide)) (fun _ => ⟨?_, s02⟩)⟩)⟩)⟩
      · rw [ht]; rfl
      · rw [ht2, ht]; rfl
      · rw [ht, ht2]; rfl
    · have hk : ¬ k = 1 := by have := of_decide_eq_false hk; omega
      rw [decide_eq_false hk, Bool.false_and, Bool.false_or]
      refine ⟨_, r2.lget rfl, bsel_of (fun hk0 => ?_) (fun hk0 => ⟨?_, s02⟩)⟩
      rotate_left
      · have : ¬ k = 0 := by have := of_decide_eq_false hk0; omega
        rw [decide_eq_false this]
        rfl
      have hk0 : k = 0 := by have := of_decide_eq_true hk0; omega
      rw [decide_eq_true hk0, Bool.true_and]
      refine ⟨_, r2.lget rfl, bsel_of (fun hb => ?_) (fun hb => ⟨?_, s02⟩)⟩
      · have hb : decide (t = tBang) = false := by simpa using hb
        refine ⟨_, r2.lget rfl, (rzreserved_spec t).mono ?_⟩
        rintro _ w3 ⟨rfl, rfl⟩
        exact .inl ⟨_, rfl, by unfold resT; rw [hb, Bool.or_false], s02⟩
      · have hb : t = tBang := by simpa using hb
        rw [hb]
        rfl
theorem Rz.all {g : Nat} {x : Nat × Txt} {r : Ts} (h : Rz w g (x :: r)) : ∃ (L c n : Nat) (b : Addr), L ≤ 20000 ∧ L = n + (r.length + 1) ∧ ∀ w', Still w w' → w'.cell? (Addr.mk g 0 none) = some (.slice (some b) L c) ∧ w'.cell? (Addr.mk g 1 none) = some (.int .i64 (n : Int)) ∧ ∀ (i : Nat) (y : Nat × Txt), (x :: r)[i]? = some y → w'.cell? (b.add ((n + i) * 2)) = some (.int .i64 (y.1 : Int)) ∧ w'.cell? ((b.add ((n + i) * 2)).add 1) = some (.string (S y.2)) := by
  obtain ⟨all, a, c, n, he, hn, hl, hr, ht⟩ := h
  have hlen := congrArg List.length he
  rw [List.length_drop, List.length_cons] at hlen
  have h0 : all[n]? = some x := by
    have := congrArg (fun l : Ts => l[0]?) he
    simp only [List.getElem?_cons_zero, List.getElem?_drop, Nat.add_zero] at this
    exact this.symm
  obtain ⟨b, _, rfl, _, _, _⟩ := ht.get h0
  refine ⟨all.length, c, n, b, hl, by omega, fun w' hs => ⟨hs.cell (hr.lget rfl), hs.cell (hr.lget rfl), fun i y hy => ?_⟩⟩
  rw [he, List.getElem?_drop] at hy
  obtain ⟨b', cs, hb', _, hE, hc⟩ := ht.get hy
  obtain rfl := Option.some.inj hb'
  obtain rfl : cs = [.int .i64 (y.1 : Int), .string (S y.2)] := hE
  exact ⟨hs.cell hc.zero, hs.cell (hc 1 _ rfl)⟩
theorem rzfunction_spec {g : Nat} {s : Ts} (h : Rz w g s) (hb : TB s) : Calls Tryz.prog fn_ref09_parser_function #[.pointer (some ⟨g, 0, none⟩)] w (fun e w' => e = .returned (.bool (funcB s)) ∧ Still w w') := by
  refine ref09_parser_function_calls _ _ _ ?_
  refine ⟨fun wq => Still w wq, drew_still w, (rzword_spec (h.still (drew_still w))).mono ?_⟩
  rintro _ w1 ⟨rfl, s1⟩
  have s01 := (drew_still w).trans s1
  refine .inl ⟨_, rfl, s01, bsel_of (fun hx => ⟨?_, s01⟩) (fun hx => ?_)⟩
  · have hx : isW s = false := by simpa using hx
    match s, hx with
    | [], _ => rfl
    | (k, t) :: r, hx =>
      have hk : decide (k = 0) = false := hx
      show _ = Ending.returned (.bool (decide (k = 0) && isName t && isT 1 tOpen r && isT 1 tShut r.tail))
      rw [hk]
      rfl
  have hx : isW s = true := by simpa using hx
  obtain ⟨t, r, rfl⟩ : ∃ t r, s = (0, t) :: r := by
    match s, hx with
    | (k, t) :: r, hx => exact ⟨t, r, by rw [show k = 0 from of_decide_eq_true hx]⟩
  have hfe : funcB ((0, t) :: r) = (isName t && isT 1 tOpen r && isT 1 tShut r.tail) := rfl
  rw [hfe]
  obtain ⟨L, c, n, b, hl, hL, hs⟩ := h.all
  have e1 : IntKind.i64.wrap ((n : Int) + 1) = ((n + 1 : Nat) : Int) := by rw [wrap_i64 (by omega) (by omega)]; omega
  have e2 : IntKind.i64.wrap ((n : Int) + 2) = ((n + 2 : Nat) : Int) := by rw [wrap_i64 (by omega) (by omega)]; omega
  refine ⟨(n : Int), fun wq hq => (hs wq hq).2.1, _, _, _, fun wq hq => (hs wq hq).1, ?_⟩
  rw [e2]
  refine bsel_of (fun hlt => ⟨?_, s01⟩) (fun hlt => ?_)
  · have hlt := of_decide_eq_true hlt
    have hr : r.length ≤ 1 := by omega
    have : isT 1 tShut r.tail = false := by
      match r, hr with
      | [], _ => rfl
      | [_], _ => rfl
    rw [this, Bool.and_false]
  have hlt := of_decide_eq_false hlt
  obtain ⟨y, z, r', rfl⟩ : ∃ y z r', r = y :: z :: r' := by
    match r, hlt, hL with
    | [], h1, h2 => exact absurd (show (L : Int) ≤ ((n + 2 : Nat) : Int) by simp only [List.length_nil] at h2; omega) h1
    | [_], h1, h2 => exact absurd (show (L : Int) ≤ ((n + 2 : Nat) : Int) by simp only [List.length_cons, List.length_nil] at h2; omega) h1
    | y :: z :: r', _, _ => exact ⟨y, z, r', rfl⟩
  simp only [List.length_cons] at hL
  obtain ⟨a0, a1, a2⟩ := hs w1 s01
  refine ⟨_, _, _, a0, _, a1, by omega, by omega, t, (a2 0 _ rfl).2, fun wq => Still w wq, (s01.trans (drew_still _)).trans (drew_still _), (ref_Name_spec t hb.head.1).mono ?_⟩
  rintro _ w2 ⟨rfl, rfl⟩
  have s02 : Still w w1.drew.drew := (s01.trans (drew_still _)).trans (drew_still _)
  refine .inl ⟨_, rfl, s02, bsel_of (fun hn => ?_) (fun hn => ⟨?_, s02⟩)⟩
  rotate_left
  · have hn := of_decide_eq_false hn
    have : isName t = false := decide_eq_false fun e => hn (by rw [e.2])
    rw [this]
    rfl
  have hnm : isName t = true := decide_eq_true ⟨hb.head.2, by have := of_decide_eq_true hn; omega⟩
  rw [hnm]
  refine ⟨_, _, _, fun wq hq => (hs wq hq).1, (n : Int), fun wq hq => (hs wq hq).2.1, ?_⟩
  rw [e1]
  refine ⟨by omega, by omega, (y.1 : Int), y.2, fun wq hq => ((hs wq hq).2.2 1 y rfl).1, fun wq hq => ((hs wq hq).2.2 1 y rfl).2, ?_⟩
  rw [show (decide ((y.1 : Int) = (1 : Int)) && ((decide (y.2 = [40])) && true)) = isT 1 tOpen (y :: z :: r') from peek_isT (y :: z :: r') 1 (by decide)]
  refine bsel_of (fun ho => ?_) (fun ho => ⟨?_, s02⟩)
  rotate_left
  · rw [ho]
    rfl
  rw [ho]
  refine ⟨_, _, _, fun wq hq => (hs wq hq).1, (n : Int), fun wq hq => (hs wq hq).2.1, ?_⟩
  rw [e2]
  refine ⟨by omega, by omega, (z.1 : Int), z.2, fun wq hq => ((hs wq hq).2.2 2 z rfl).1, fun wq hq => ((hs wq hq).2.2 2 z rfl).2, ?_, s02⟩
  rw [show (decide ((z.1 : Int) = (1 : Int)) && ((decide (z.2 = [41])) && true)) = isT 1 tShut (z :: r') from peek_isT (z :: r') 1 (by decide)]
  rfl
def RzP (w : World) (g : Nat) (r : Rs (Nd × Ts)) (e : Ending) (w' : World) : Prop := Only g w w' ∧ ∃ (x : Nd) (cs : List Value) (er : Int), e = .returned (.tuple #[.agg ⟨cs⟩, .int .i64 er]) ∧ NdE w' (fun k => w.heap.size ≤ k ∧ k < w'.heap.size) x cs ∧ match r with
  | .ok y => er = 0 ∧ x = y.1 ∧ Rz w' g y.2
  | .bad k => k ≠ 0 ∧ er = (k : Int)
def RCmdS (L : Nat) : Prop := ∀ (w : World) (g : Nat) (s : Ts), Rz w g s → TB s → Calls Tryz.prog fn_ref09_parser_command #[.pointer (some ⟨g, 0, none⟩), .int .i64 (31 - (L : Int))] w (RzP w g ((lvS L).1 s))
def RBrS (L : Nat) : Prop := ∀ (w : World) (g : Nat) (s : Ts), Rz w g s → TB s → L ≠ 0 → Calls Tryz.prog fn_ref09_parser_branch #[.pointer (some ⟨g, 0, none⟩), .int .i64 (31 - (L : Int))] w (RzP w g ((lvS L).2 s))
end Go.Proofs.YtcoeiiihmpnagaaGreatDoor
namespace Go.Proofs.YtcoeiiihmpnagaaGreatDoor
open Go.RowKit Vc
variable {w : World} {α β : Type}
section
variable {e : Enc α} {B gn : Nat} {t : TypeId} {X X' : Nat → Prop} {l : List α} {v : Value}
theorem Enc.OutX.push2 {bytes : Nat} {p : Option Addr} {n c : Nat} {x : α} {cs : List Value} {K : Option Addr → Nat → World → Prop} {Sw : World → Prop} (ho : e.OutX w B t X gn l (.slice p n c)) (hB : B ≤ w.heap.size) (_hXs : ∀ k, X k → k < w.heap.size) (hgn : gn < w.heap.size)
    (hS : ∀ w1, Still w w1 → Sw w1) (hx : e.E w (fun k => B ≤ k ∧ k < w.heap.size ∧ ¬ X k) x cs) (hs : n + 1 ≤ 9223372036854775807) (hb : (n + 1) * bytes ≤ 140737488355328)
    (h : ∀ p' c' w', e.OutX w' B t (fun k => X k ∨ (Value.slice p' (n + 1) c').ownBlock = some k) gn (l ++ [x]) (.slice p' (n + 1) c') → Mod (fun k => (Value.slice p n c).ownBlock = some k) w w' → (∀ k, (Value.slice p' (n + 1) c').ownBlock = some k → X k ∨ w.heap.size ≤ k) → (∀ k, (Value.slice p' (n + 1) c').ownBlock = some k → k < w'.heap.size) → (∀ k, (Value.slice p' (n + 1) c').ownBlock = some k → (Value.slice p n c).ownBlock = some k ∨ w.heap.size ≤ k) → K p' c' w') :
    letW (w.alloc (.cells ⟨cs⟩ t)) (fun w2 => Sw w2 ∧ appK w2 t e.sz bytes p n c (some (Addr.mk w.heap.size 0 none)) 1 K) := by
  obtain ⟨p0, c0, xs, he, ho, hg, hc⟩ := ho
  injection he with e1 e2 e3
  subst e1 e2 e3
  have hl := e.len hx
  refine allocK fun w1 hr hst hz => ⟨hS w1 hst, ?_⟩
  refine appK_push (ho.still hst) (by omega) cs (by omega) (e.one hx) (fun _ => ⟨_, rfl, fun j u hu => ?_⟩) hs hb fun p' c' w' ho' hm hk => ?_
  · rw [add_row, Nat.zero_add]
    exact hr.cellv (by simpa using hu)
  have hz' := hm.size
  have hown : ∀ k, (Value.slice p' (l.length + 1) c').ownBlock = some k → (X k ∧ k ≠ gn) ∨ w.heap.size + 1 = k := by
    intro k hk'
    rcases hk.own (n := l.length) with hk | hk
    · exact .inl (hg k (hk.symm.trans hk'))
    · rw [hk'] at hk
      have := Option.some.inj hk
      exact .inr (by omega)
  refine h p' c' w' ⟨p', c', xs ++ cs, by rw [List.length_append]; rfl, by rw [List.length_append]; exact ho', fun k hk' => ⟨.inr hk', ?_⟩, ?_⟩ (Mod.trans hst hm (fun _ h => h.elim) (fun _ _ h => h)) (fun k hk' => ?_) (fun k hk' => (ho'.lt k hk').2) fun k hk' => ?_
  · rcases hown k hk' with h | h
    · exact h.2
    · omega
  · refine (hc.append (Enc.Cs.single hx)).turn (fun k hk => ⟨hk.1, by omega, fun hx => ?_⟩) fun a v ⟨k, hk, ea⟩ hcell => mod_cell hm (by rw [ea]; exact fun h => hk.2.2 (hg k h).1) (hst.cell hcell)
    rcases hx with hx | hx
    · exact hk.2.2 hx
    · rcases hown k hx with h | h
      · exact hk.2.2 h.1
      · omega
  · rcases hown k hk' with h | h
    · exact .inl h.1
    · exact .inr (by omega)
  · rcases hk.own (n := l.length) with hk | hk
    · exact .inl (hk.symm.trans hk')
    · rw [hk'] at hk
      have := Option.some.inj hk
      exact .inr (by omega)
end
theorem NB.addK2 {w0 : World} {g gn B : Nat} {X : Nat → Prop} {x : Nd} {vw va vr vo : Value} {p : Option Addr} {n c : Nat} {y : Nd} {cs : List Value} (h2 : NB w0 w g gn B X x vw va vr vo (.slice p n c)) (hy : ndE.E w (fun k => B ≤ k ∧ k < w.heap.size ∧ ¬ X k) y cs) (hn : x.ks.length < 1000000) {K : World → Prop}
    (hK : ∀ p' c' w' X', NB w0 w' g gn B X' (x.addK y) vw va vr vo (.slice p' (n + 1) c') → Mod (fun k => (Value.slice p n c).ownBlock = some k ∨ k = gn) w w' → (∀ k, X k → X' k) → (∀ k, X' k → X k ∨ w.heap.size ≤ k) → (∀ k, (Value.slice p' (n + 1) c').ownBlock = some k → (Value.slice p n c).ownBlock = some k ∨ w.heap.size ≤ k) → K w') :
    letW (w.alloc (.cells ⟨cs⟩ 31)) (fun w2 => w2.cell? (Addr.mk gn 7 none) = some (.slice p n c) ∧ appK w2 31 8 152 p n c (some (Addr.mk w.heap.size 0 none)) 1 (fun p' c' w9 => stCells (Addr.mk gn 7 none) K 0 [.slice p' (n + 1) c'] w9)) := by
  obtain ⟨_, _, _, he, _, hg, _⟩ := id h2.ok
  injection he with _ en _
  have hgl := h2.row.lt
  have hsz := h2.only.size
  have hgn := h2.hgn
  have hB := h2.hB
  refine Enc.OutX.push2 (Sw := fun wq => wq.cell? (Addr.mk gn 7 none) = some (.slice p n c)) h2.ok (by omega) (fun k hk => (h2.xs k hk).1) hgl (fun wq hq => (h2.row.still hq).lget rfl) hy (by omega) (by omega) fun p' c' w9 ho9 hm9 hw9 hl9 hf9 => ?_
  have hr9 := h2.row.mod hm9 (fun hk => (hg gn hk).2 rfl)
  refine stK hr9 (by simp) (by simp [Value.oneCell']) fun w10 r10 m10 z10 => hK p' c' w10 (fun k => X k ∨ (Value.slice p' (n + 1) c').ownBlock = some k) ?_ ?_ (fun _ h => .inl h) (fun k hk => hk.elim .inl fun h => hw9 k h) hf9
  rotate_left
  · exact Mod.trans hm9 m10 (fun k hk => .inl hk) (fun k _ hk => .inr hk)
  have hz9 := hm9.size
  have hz10 := m10.size
  have oth : ∀ {β : Type} {f : Enc β} {u : TypeId} {m : List β} {v' : Value}, f.OutX w B u X gn m v' → (∀ k, (Value.slice p n c).ownBlock = some k → v'.ownBlock ≠ some k) → f.OutX w10 B u (fun k => X k ∨ (Value.slice p' (n + 1) c').ownBlock = some k) gn m v' := by
    intro β f u m v' hf hne
    obtain ⟨_, _, _, _, _, hgv, _⟩ := id hf
    exact (hf.mod hm9 (fun k _ _ hs => ⟨(hg k hs).1, hne k hs⟩) (fun _ h => .inl h) (fun k hk => hk.elim .inl (fun h => hw9 k h))).mod m10 (fun k _ _ e => by subst e; exact ⟨.inl h2.xg, fun hk => (hgv _ hk).2 rfl⟩) (fun _ h => h) (fun _ h => .inl h)
  have own10 := ho9.mod m10 (X' := fun k => X k ∨ (Value.slice p' (n + 1) c').ownBlock = some k) (fun k _ _ e => by
    subst e
    obtain ⟨_, _, _, _, _, hgv, _⟩ := id ho9
    exact ⟨.inl h2.xg, fun hk => (hgv _ hk).2 rfl⟩) (fun _ h => h) (fun _ h => .inl h)
  have hlow : ∀ k, (Value.slice p' (n + 1) c').ownBlock = some k → B ≤ k := fun k hk => by
    rcases hw9 k hk with hk | hk
    · exact (h2.xs k hk).2
    · omega
  refine ⟨r10, Mod.trans (Mod.trans h2.only hm9 (fun _ h => h) (fun i hi hk => by have := (h2.xs _ (hg _ hk).1).2; omega)) m10 (fun _ h => h) (fun i hi e => by omega), h2.hg, hB, hgn, fun k hk => ?_, .inl h2.xg, oth h2.ow (fun k hk => h2.ok.apart h2.ow (by decide) hk), oth h2.oa (fun k hk => h2.ok.apart h2.oa (by decide) hk), oth h2.ord (fun k hk => h2.ok.apart h2.ord (by decide) hk), oth h2.oo (fun k hk => h2.ok.apart h2.oo (by decide) hk), own10⟩
  rcases hk with hk | hk
  · have := h2.xs k hk
    exact ⟨by omega, this.2⟩
  · have := hl9 k hk
    exact ⟨by omega, hlow k hk⟩
theorem NB.beside {w0 w' : World} {g gn B kb : Nat} {X : Nat → Prop} {x : Nd} {vw va vr vo vk : Value} (h : NB w0 w g gn B X x vw va vr vo vk) (hX : X kb) (hne : kb ≠ gn) (hv : ∀ v ∈ [vw, va, vr, vo, vk], v.ownBlock ≠ some kb) (hm : Mod (fun k => k = kb) w w') : NB w0 w' g gn B X x vw va vr vo vk := by
  have hz := hm.size
  have hB := h.hB
  have hk := (h.xs kb hX).2
  refine ⟨h.row.mod hm (fun e => hne e.symm), Mod.trans h.only hm (fun _ h => h) (fun i hi e => by omega), h.hg, hB, h.hgn, fun k hk => ⟨Nat.lt_of_lt_of_le (h.xs k hk).1 hz, (h.xs k hk).2⟩, h.xg, ?_, ?_, ?_, ?_, ?_⟩
  · exact h.ow.mod hm (fun k _ _ e => by subst e; exact ⟨hX, hv _ (by simp)⟩) (fun _ h => h) (fun _ h => .inl h)
  · exact h.oa.mod hm (fun k _ _ e => by subst e; exact ⟨hX, hv _ (by simp)⟩) (fun _ h => h) (fun _ h => .inl h)
  · exact h.ord.mod hm (fun k _ _ e => by subst e; exact ⟨hX, hv _ (by simp)⟩) (fun _ h => h) (fun _ h => .inl h)
  · exact h.oo.mod hm (fun k _ _ e => by subst e; exact ⟨hX, hv _ (by simp)⟩) (fun _ h => h) (fun _ h => .inl h)
  · exact h.ok.mod hm (fun k _ _ e => by subst e; exact ⟨hX, hv _ (by simp)⟩) (fun _ h => h) (fun _ h => .inl h)
theorem setK2_spec {w0 : World} {g gn B : Nat} {X : Nat → Prop} {x y : Nd} {vw va vr vo vk : Value} {cs : List Value} (nb : NB w0 w g gn B X x vw va vr vo vk) (hn : NdE w (fun k => B ≤ k ∧ k < w.heap.size ∧ ¬ X k) y cs) {K : World → Prop}
    (hK : ∀ w' X', NB w0 w' g gn B X' (x.setK y) vw va vr vo (.slice (some ⟨w.heap.size, 0, none⟩) 1 1) → Mod (fun k => k = gn) w w' → w'.heap.size = w.heap.size + 1 → (∀ k, X k → X' k) → (∀ k, X' k → X k ∨ w.heap.size ≤ k) → K w') :
    letW (w.alloc (.cells ⟨cs⟩ 31)) (fun w2 => stCells (Addr.mk gn 7 none) K 0 [.slice (some (Addr.mk w.heap.size 0 none)) 1 1] w2) := by
  have hl := nb.row.lt
  have hB := nb.hB
  have hgn := nb.hgn
  refine allocK fun w2 r2 s2 z2 => ?_
  have nb2 := nb.more (Y := fun k => X k ∨ k = w.heap.size) s2 (fun k hk => .inl hk) (fun k hk => hk.imp_right fun e => by omega)
  refine stK nb2.row (by simp) (by simp [Value.oneCell']) fun w3 r3 m3 z3 => hK w3 _ (nb2.put m3 (y := x.setK y) r3 (.inr ⟨rfl, rfl⟩) ⟨rfl, rfl⟩ ⟨rfl, rfl⟩ (.inr ⟨rfl, rfl⟩) (.inl ?_)) (Mod.trans s2 m3 (fun _ h => h.elim) (fun k _ e => e)) (by omega) (fun k hk => .inl hk) (fun k hk => hk.imp_right fun e => by omega)
  have hn3 := (hn.still s2).mod m3 (fun k hk (e : k = gn) => hk.2.2 (e ▸ nb.xg))
  refine Enc.OutX.row (l := [y]) (r2.mod m3 (by omega)) (by omega) (by omega) (.inr rfl) (show 1 ≤ 1000000 by decide) (Enc.Cs.single (hn3.mono fun k hk => ⟨hk.1, by have := hk.2.1; omega, fun hx => ?_⟩))
  rcases hx with hx | hx
  · exact hk.2.2 hx
  · have := hk.2.1
    omega
end Go.Proofs.YtcoeiiihmpnagaaGreatDoor
namespace Go.Proofs.YtcoeiiihmpnagaaGreatDoor
open Go.RowKit Vc
variable {w : World}
structure NK (w0 w : World) (g gn kb B : Nat) (X : Nat → Prop) (x : Nd) (vo vk : Value) (y : Nd) : Prop where
  nb : NB w0 w g gn B X x (.slice none 0 0) (.slice none 0 0) (.slice none 0 0) vo vk
  xk : X kb
  ne : kb ≠ gn
  ownO : vo.ownBlock ≠ some kb
  ownK : vk.ownBlock ≠ some kb
  last : ∃ cs, Row w kb 31 ⟨cs⟩ ∧ NdE w (fun k => B ≤ k ∧ k < w.heap.size ∧ ¬ X k) y cs
theorem NK.on {w0 w' : World} {g gn kb B : Nat} {X : Nat → Prop} {x y : Nd} {vo vk : Value} (h : NK w0 w g gn kb B X x vo vk y) (hm : Only g w w') : NK w0 w' g gn kb B X x vo vk y := by
  obtain ⟨nb, xk, ne, o1, o2, cs, hr, hn⟩ := h
  have hg := nb.hg
  have hB := nb.hB
  have hk := (nb.xs kb xk).2
  have hz := hm.size
  refine ⟨nb.on hm, xk, ne, o1, o2, cs, hr.mod hm (by omega), ?_⟩
  exact (hn.mod hm fun k hk (e : k = g) => by have := hk.1; omega).mono fun k hk => ⟨hk.1, by have := hk.2.1; omega, hk.2.2⟩
theorem NK.still {w0 w' : World} {g gn kb B : Nat} {X : Nat → Prop} {x y : Nd} {vo vk : Value} (h : NK w0 w g gn kb B X x vo vk y) (hm : Still w w') : NK w0 w' g gn kb B X x vo vk y := h.on hm.only
theorem NK.next {w0 w1 : World} {g gn kb B : Nat} {X : Nat → Prop} {x y z : Nd} {vo : Value} {p : Option Addr} {n c : Nat} {cs : List Value} (h : NK w0 w1 g gn kb B X x vo (.slice p n c) y) (o : Only g w1 w) (hz : NdE w (fun k => w1.heap.size ≤ k ∧ k < w.heap.size) z cs) (hn : x.ks.length < 1000000) {K K2 : World → Prop}
    (hK : ∀ p' c' w' X', NK w0 w' g gn kb B X' (x.addK z) vo (.slice p' (n + 1) c') z → Mod (fun k => B ≤ k) w w' → K w')
    (hK2 : ∀ w2, w2.cell? (Addr.mk gn 7 none) = some (.slice p n c) → Row w2 kb 31 ⟨cs⟩ → letW (w2.alloc (.cells ⟨cs⟩ 31)) (fun w3 => appK w3 31 8 152 p n c (some (Addr.mk w2.heap.size 0 none)) 1 (fun p' c' w9 => stCells (Addr.mk gn 7 none) K 0 [.slice p' (n + 1) c'] w9)) → K2 w2) : stCells (Addr.mk kb 0 none) K2 0 cs w := by
  have h1 := h.on o
  obtain ⟨nb, xk, ne, o1, o2, cs0, hr, hn0⟩ := h1
  have hxs := h.nb.xs
  have hkb := nb.xs kb xk
  have hgl := h.nb.row.lt
  have hgn := h.nb.hgn
  have hB := h.nb.hB
  have hzo := o.size
  have hl0 : cs0.length = 8 := by
    obtain ⟨_, _, _, _, _, rfl, _⟩ := hn0.raw
    rfl
  have hl : cs.length = 8 := by
    obtain ⟨_, _, _, _, _, rfl, _⟩ := hz.raw
    rfl
  have h1c : ∀ v ∈ cs, v.oneCell' = true := ndE.one hz
  refine stK hr (by omega) h1c fun w2 r2 m2 z2 => ?_
  have e2 : ovw cs0 0 cs = cs := by
    obtain ⟨a0, a1, a2, a3, a4, a5, a6, a7, rfl⟩ : ∃ a0 a1 a2 a3 a4 a5 a6 a7, cs0 = [a0, a1, a2, a3, a4, a5, a6, a7] := by
      match cs0, hl0 with
      | [a0, a1, a2, a3, a4, a5, a6, a7], _ => exact ⟨_, _, _, _, _, _, _, _, rfl⟩
    obtain ⟨b0, b1, b2, b3, b4, b5, b6, b7, rfl⟩ : ∃ b0 b1 b2 b3 b4 b5 b6 b7, cs = [b0, b1, b2, b3, b4, b5, b6, b7] := by
      match cs, hl with
      | [b0, b1, b2, b3, b4, b5, b6, b7], _ => exact ⟨_, _, _, _, _, _, _, _, rfl⟩
    rfl
  rw [e2] at r2
  have nb2 := nb.beside xk ne (by
    intro v hv
    simp only [List.mem_cons, List.not_mem_nil, or_false] at hv
    rcases hv with rfl | rfl | rfl | rfl | rfl
    · exact fun h => by cases h
    · exact fun h => by cases h
    · exact fun h => by cases h
    · exact o1
    · exact o2) m2
  have hz2 : NdE w2 (fun k => B ≤ k ∧ k < w2.heap.size ∧ ¬ X k) z cs := (hz.mod m2 fun k hk (e : k = kb) => by have h1 : w1.heap.size ≤ k := hk.1; have := (hxs kb xk).1; omega).mono fun k hk => ⟨by have h1 : w1.heap.size ≤ k := hk.1; omega, by have h1 : k < w.heap.size := hk.2; omega, fun hx => by have h1 : w1.heap.size ≤ k := hk.1; have := (hxs k hx).1; omega⟩
  refine hK2 w2 (nb2.row.lget rfl) r2 (NB.addK2 nb2 hz2 hn fun p' c' w' X' nb3 m3 hXX hXY hown => hK p' c' w' X' ⟨nb3, hXX _ xk, ne, o1, fun hk => ?_, cs, r2.mod m3 (fun hk => ?_), ?_⟩ ?_).2
  · rcases hown _ hk with hk | hk
    · exact o2 hk
    · omega
  · rcases hk with hk | hk
    · exact o2 hk
    · exact ne hk
  · have hz3 := m3.size
    obtain ⟨_, _, _, _, _, hg, _⟩ := id nb2.ok
    exact (hz2.mod m3 fun k hk hs => hk.2.2 (hs.elim (fun h => (hg k h).1) (fun h => h ▸ nb2.xg))).mono fun k hk => ⟨hk.1, by have := hk.2.1; omega, fun hx => (hXY k hx).elim hk.2.2 fun h => by have := hk.2.1; omega⟩
  · obtain ⟨_, _, _, _, _, hg, _⟩ := id nb2.ok
    exact Mod.trans m2 m3 (fun k (e : k = kb) => by omega) (fun k _ hs => hs.elim (fun h => (nb2.xs k (hg k h).1).2) (fun h => by omega))
def NExitT (gn gr : Nat) (er : Int) (w : World) (R : Ending → World → Prop) : Prop :=
  ∃ vKind : Int, ∃ vNot : Bool, ∃ vName : List UInt8, ∃ (vWords : Option Addr) (vWordsL vWordsC : Nat), ∃ (vAssigns : Option Addr) (vAssignsL vAssignsC : Nat), ∃ (vRedirs : Option Addr) (vRedirsL vRedirsC : Nat), ∃ (vOps : Option Addr) (vOpsL vOpsC : Nat), ∃ (vKids : Option Addr) (vKidsL vKidsC : Nat), w.cell? (Addr.mk gn 0 none) = some (.int .i64 vKind) ∧ w.cell? (Addr.mk gn 1 none) = some (.bool vNot) ∧ w.cell? (Addr.mk gn 2 none) = some (.string (S vName)) ∧ w.cell? (Addr.mk gn 3 none) = some (.slice vWords vWordsL vWordsC) ∧ w.cell? (Addr.mk gn 4 none) = some (.slice vAssigns vAssignsL vAssignsC) ∧ w.cell? (Addr.mk gn 5 none) = some (.slice vRedirs vRedirsL vRedirsC) ∧ w.cell? (Addr.mk gn 6 none) = some (.slice vOps vOpsL vOpsC) ∧ w.cell? (Addr.mk gn 7 none) = some (.slice vKids vKidsL vKidsC) ∧ stCells (Addr.mk gr 0 none) (fun (w7 : World) => ∃ vKind1 : Int, ∃ vNot1 : Bool, ∃ vName1 : List UInt8, ∃ (vWords1 : Option Addr) (vWordsL1 vWordsC1 : Nat), ∃ (vAssigns1 : Option Addr) (vAssignsL1 vAssignsC1 : Nat), ∃ (vRedirs1 : Option Addr) (vRedirsL1 vRedirsC1 : Nat), ∃ (vOps1 : Option Addr) (vOpsL1 vOpsC1 : Nat), ∃ (vKids1 : Option Addr) (vKidsL1 vKidsC1 : Nat), w7.cell? (Addr.mk gr 0 none) = some (.int .i64 vKind1) ∧ w7.cell? (Addr.mk gr 1 none) = some (.bool vNot1) ∧ w7.cell? (Addr.mk gr 2 none) = some (.string (S vName1)) ∧ w7.cell? (Addr.mk gr 3 none) = some (.slice vWords1 vWordsL1 vWordsC1) ∧ w7.cell? (Addr.mk gr 4 none) = some (.slice vAssigns1 vAssignsL1 vAssignsC1) ∧ w7.cell? (Addr.mk gr 5 none) = some (.slice vRedirs1 vRedirsL1 vRedirsC1) ∧ w7.cell? (Addr.mk gr 6 none) = some (.slice vOps1 vOpsL1 vOpsC1) ∧ w7.cell? (Addr.mk gr 7 none) = some (.slice vKids1 vKidsL1 vKidsC1) ∧ R (.returned (.tuple #[(.agg #[(.int .i64 vKind1), (.bool vNot1), (.string (S vName1)), (.slice vWords1 vWordsL1 vWordsC1), (.slice vAssigns1 vAssignsL1 vAssignsC1), (.slice vRedirs1 vRedirsL1 vRedirsC1), (.slice vOps1 vOpsL1 vOpsC1), (.slice vKids1 vKidsL1 vKidsC1)]), (.int .i64 er)])) w7) 0 [(.int .i64 vKind), (.bool vNot), (.string (S vName)), (.slice vWords vWordsL vWordsC), (.slice vAssigns vAssignsL vAssignsC), (.slice vRedirs vRedirsL vRedirsC), (.slice vOps vOpsL vOpsC), (.slice vKids vKidsL vKidsC)] w
theorem nExitT_spec {w0 : World} {g gn B : Nat} {X : Nat → Prop} {x : Nd} {vw va vr vo vk : Value} {er : Int} {R : Ending → World → Prop} (h : NB w0 w g gn B X x vw va vr vo vk) (hres : Row w w0.heap.size 31 ⟨zcell⟩) (hB : w0.heap.size < B)
    (hR : ∀ w' cs, Mod (fun k => k = w0.heap.size) w w' → Only g w0 w' → NdE w' (fun k => w0.heap.size ≤ k ∧ k < w'.heap.size) x cs → R (.returned (.tuple #[.agg ⟨cs⟩, .int .i64 er])) w') : NExitT gn w0.heap.size er w R := by
  have hn := h.nde
  obtain ⟨pw, cw, rfl⟩ := h.ow.form
  obtain ⟨pa, ca, rfl⟩ := h.oa.form
  obtain ⟨pr, cr, rfl⟩ := h.ord.form
  obtain ⟨po, co, rfl⟩ := h.oo.form
  obtain ⟨pk, ck, rfl⟩ := h.ok.form
  have hr := h.row
  refine ⟨_, _, _, _, _, _, _, _, _, _, _, _, _, _, _, _, _, _, hr.lget rfl, hr.lget rfl, hr.lget rfl, hr.lget rfl, hr.lget rfl, hr.lget rfl, hr.lget rfl, hr.lget rfl, stK hres (by simp) (by simp [Value.oneCell']) fun w' r' m' z' => ?_⟩
  refine ⟨_, _, _, _, _, _, _, _, _, _, _, _, _, _, _, _, _, _, r'.lget rfl, r'.lget rfl, r'.lget rfl, r'.lget rfl, r'.lget rfl, r'.lget rfl, r'.lget rfl, r'.lget rfl, hR w' _ m' (Mod.trans h.only m' (fun _ h => h) (fun i hi e => by omega)) ?_⟩
  exact (hn.mod m' fun k hk e => by omega).mono fun k hk => ⟨by omega, by omega⟩
theorem nExitT_row {w0 : World} {g gn B : Nat} {x : Nd} {cs : List Value} {er : Int} {R : Ending → World → Prop} (hr : Row w gn 31 ⟨cs⟩) (hn : NdE w (fun k => B ≤ k ∧ k < w.heap.size) x cs) (ho : Only g w0 w) (hres : Row w w0.heap.size 31 ⟨zcell⟩) (hB : w0.heap.size < B)
    (hR : ∀ w' cs, Mod (fun k => k = w0.heap.size) w w' → Only g w0 w' → NdE w' (fun k => w0.heap.size ≤ k ∧ k < w'.heap.size) x cs → R (.returned (.tuple #[.agg ⟨cs⟩, .int .i64 er])) w') : NExitT gn w0.heap.size er w R := by
  obtain ⟨pw, cw, pa, ca, pr, cr, po, co, pk, ck, rfl, _⟩ := hn.outs
  refine ⟨_, _, _, _, _, _, _, _, _, _, _, _, _, _, _, _, _, _, hr.lget rfl, hr.lget rfl, hr.lget rfl, hr.lget rfl, hr.lget rfl, hr.lget rfl, hr.lget rfl, hr.lget rfl, stK hres (by simp) (by simp [Value.oneCell']) fun w' r' m' z' => ?_⟩
  refine ⟨_, _, _, _, _, _, _, _, _, _, _, _, _, _, _, _, _, _, r'.lget rfl, r'.lget rfl, r'.lget rfl, r'.lget rfl, r'.lget rfl, r'.lget rfl, r'.lget rfl, r'.lget rfl, hR w' _ m' (Mod.trans ho m' (fun _ h => h) (fun i hi e => by omega)) ?_⟩
  exact (hn.mod m' fun k hk e => by omega).mono fun k hk => ⟨by omega, by omega⟩
theorem rzpipe_of {L : Nat} (hc : RCmdS L) {g : Nat} {s : Ts} (h : Rz w g s) (hb : TB s) : Calls Tryz.prog fn_ref09_parser_pipe #[.pointer (some ⟨g, 0, none⟩), .int .i64 (31 - (L : Int))] w (RzP w g (pipeF (lvS L).1 s)) := by
  refine ref09_parser_pipe_calls _ _ _ _ ?_
  have hg := h.lt
  have he := (lvS_eats L).1
  have hsf := (lvS_suf L).1
  refine allocK fun w1 r1 s1 z1 => allocK fun w2 r2 s2 z2 => stK r2 (by simp) (by simp [Value.oneCell']) fun w3 r3 m3 z3 => ?_
  have r3 : Row w3 w1.heap.size 31 ⟨ncell (.mk 1 false [] [] [] [] [] []) (.slice none 0 0) (.slice none 0 0) (.slice none 0 0) (.slice none 0 0) (.slice none 0 0)⟩ := r3
  have s03 : Still w w3 := Mod.trans (s1.trans s2) m3 (fun _ h => h) (fun i hi e => by omega)
  have res3 : Row w3 w.heap.size 31 ⟨zcell⟩ := (r1.still s2).mod m3 (by omega)
  refine (rztake_spec (h.still s03) 0 tBang).mono ?_
  rintro _ w4 ⟨rfl, o4, h4⟩
  have hz4 := o4.size
  refine .inl ⟨_, rfl, stK (r3.mod o4 (by omega)) (by simp) (by simp [Value.oneCell']) fun w5 r5 m5 z5 => ?_⟩
  have r5 : Row w5 w1.heap.size 31 ⟨ncell (.mk 1 (isT 0 tBang s) [] [] [] [] [] []) (.slice none 0 0) (.slice none 0 0) (.slice none 0 0) (.slice none 0 0) (.slice none 0 0)⟩ := r5
  have o5 : Only g w w5 := Mod.trans (s03.only.tr o4) m5 (fun _ h => h) (fun i hi e => by omega)
  have res5 := (res3.mod o4 (by omega)).mod m5 (by omega)
  have h5 := h4.mod m5 (by intro k hk e; omega)
  have nb5 := NB.mk0 (B := w.heap.size + 1) r5 o5 hg (by omega) (by omega) ⟨rfl, rfl, rfl, rfl, rfl⟩
  have hb5 : TB (if isT 0 tBang s = true then s.tail else s) := hb.suf (ite_suf _ s)
  have hpf : pipeF (lvS L).1 s = ((lvS L).1 (if isT 0 tBang s = true then s.tail else s)).and fun x => manyF (pipeS (lvS L).1 (isT 0 tBang s)) [x.1] x.2 := rfl
  rw [hpf]
  clear hpf
  generalize (if isT 0 tBang s = true then s.tail else s) = s0 at *
  generalize isT 0 tBang s = neg at *
  generalize hgn : w1.heap.size = gn at *
  have hs0 := hb5.1
  have hgl5 := nb5.row.lt
  refine (hc _ _ _ h5 hb5).mono ?_
  rintro e6 w6 ⟨o6, x, cs, er, rfl, hnd, hmt⟩
  have hz6 := o6.size
  obtain ⟨pw, cw, pa, ca, pr, cr, po, co, pk, ck, rfl, _⟩ := hnd.outs
  have nb6 := nb5.on o6
  have res6 := res5.mod o6 (by omega)
  refine .inl ⟨_, _, _, _, _, _, _, _, _, _, _, _, _, _, _, _, _, _, _, rfl, allocK fun w7 r7 s7 z7 => stK r7 (by simp) (by simp [Value.oneCell']) fun w8 r8 m8 z8 => ?_⟩
  have r8 : Row w8 w6.heap.size 31 ⟨ncell x (.slice pw x.ws.length cw) (.slice pa x.as.length ca) (.slice pr x.rs.length cr) (.slice po x.os.length co) (.slice pk x.ks.length ck)⟩ := r8
  have nb7 := nb6.more (Y := fun k => k = gn ∨ k = w6.heap.size) s7 (fun k hk => .inl hk) (fun k hk => hk.imp_right fun e => by omega)
  have nb8 := nb7.beside (kb := w6.heap.size) (.inr rfl) (by omega) (by
    intro v hv
    simp only [List.mem_cons, List.not_mem_nil, or_false] at hv
    rcases hv with rfl | rfl | rfl | rfl | rfl <;> (intro h; cases h)) m8
  have hn8 : NdE w8 (fun k => w.heap.size + 1 ≤ k ∧ k < w8.heap.size ∧ ¬ (k = gn ∨ k = w6.heap.size)) x _ := ((hnd.still s7).mod m8 (fun k hk (e : k = w6.heap.size) => by have := hk.2; omega)).mono fun k hk => by
    have h1 : w5.heap.size ≤ k := hk.1
    have h2 : k < w6.heap.size := hk.2
    exact ⟨by omega, by omega, by omega⟩
  have res8 := (res6.still s7).mod m8 (by omega)
  refine ⟨_, _, _, _, _, _, _, _, _, _, _, _, _, _, _, _, _, _, r8.lget rfl, r8.lget rfl, r8.lget rfl, r8.lget rfl, r8.lget rfl, r8.lget rfl, r8.lget rfl, r8.lget rfl, setK2_spec nb8 hn8 fun w10 X10 nb10 m10 z10 hXX hXY => ?_⟩
  have r10 := r8.mod m10 (by omega)
  have nk10 : NK w w10 g gn w6.heap.size (w.heap.size + 1) X10 (.mk 1 neg [] [] [] [] [] [x]) (.slice none 0 0) (.slice (some ⟨w8.heap.size, 0, none⟩) 1 1) x := by
    refine ⟨nb10, hXX _ (.inr rfl), by omega, (fun h => by cases h), (fun h => ?_), _, r10, ?_⟩
    · have h8 : w8.heap.size = w6.heap.size := Option.some.inj h
      omega
    · exact (hn8.mod m10 fun k hk (e : k = gn) => hk.2.2 (.inl e)).mono fun k hk => ⟨hk.1, by have := hk.2.1; omega, fun hx => (hXY k hx).elim hk.2.2 fun h => by have := hk.2.1; omega⟩
  have res10 := res8.mod m10 (by omega)
  have hz5 : w.heap.size + 1 ≤ gn := by omega
  have o10 := nb10.only
  have hkb1 : w.heap.size + 1 ≤ w6.heap.size := by omega
  generalize w6.heap.size = kb at *
  have heats : ∀ y, (lvS L).1 s0 = .ok y → y.2.length < s0.length ∧ y.2 <:+ s0 := fun y hy => ⟨he _ _ hy, hsf _ _ hy⟩
  generalize hres : (((lvS L).1 s0).and fun x => manyF (pipeS (lvS L).1 neg) [x.1] x.2) = target at *
  refine ⟨fun er w9 => ∃ ks vk X y, NK w w9 g gn kb (w.heap.size + 1) X (.mk 1 neg [] [] [] [] [] ks) (.slice none 0 0) vk y ∧ Row w9 w.heap.size 31 ⟨zcell⟩ ∧ ks ≠ [] ∧ ks.length ≤ 30000 ∧ ((er = 0 ∧ ∃ s9, Rz w9 g s9 ∧ s9 <:+ s0 ∧ ks.length + s9.length ≤ s0.length ∧ (∀ k, ks = [k] → k = y) ∧ manyF (pipeS (lvS L).1 neg) ks s9 = target) ∨ (∃ k : Nat, k ≠ 0 ∧ er = (k : Int) ∧ target = .bad k)), fun er w => if er = 0 then rzLen g w + 1 else 0, ?_, ?_⟩
  · refine ⟨[x], _, X10, x, nk10, res10, by simp, by simp, ?_⟩
    cases hr : (lvS L).1 s0 with
    | bad k =>
      rw [hr] at hmt hres
      exact .inr ⟨k, hmt.1, hmt.2, hres.symm⟩
    | ok y =>
      rw [hr] at hmt hres
      obtain ⟨e1, rfl, h6⟩ := hmt
      obtain ⟨hy1, hy2⟩ := heats y hr
      refine .inl ⟨e1, y.2, ((h6.still s7).mod m8 (by intro k hk e; omega)).mod m10 (by intro k hk e; omega), hy2, by simp only [List.length_cons, List.length_nil]; omega, fun k hk => (List.cons.inj hk).1.symm, hres⟩
  rintro er _ w11 ⟨ks, vk, X, y, nk, res, hne, hkl, hst⟩
  refine ⟨fun w18 => NK w w18 g gn kb (w.heap.size + 1) X (.mk 1 neg [] [] [] [] [] ks) (.slice none 0 0) vk y ∧ Row w18 w.heap.size 31 ⟨zcell⟩ ∧ er = 0 ∧ ∃ s9, Rz w18 g s9.tail ∧ isT 1 tPipe s9 = true ∧ s9 <:+ s0 ∧ ks.length + s9.length ≤ s0.length ∧ manyF (pipeS (lvS L).1 neg) ks s9 = target ∧ rzLen g w11 = s9.length,
    ⟨fun b w13 => NK w w13 g gn kb (w.heap.size + 1) X (.mk 1 neg [] [] [] [] [] ks) (.slice none 0 0) vk y ∧ Row w13 w.heap.size 31 ⟨zcell⟩ ∧ ((b = true ∧ er = 0 ∧ ∃ s9, Rz w13 g s9.tail ∧ isT 1 tPipe s9 = true ∧ s9 <:+ s0 ∧ ks.length + s9.length ≤ s0.length ∧ manyF (pipeS (lvS L).1 neg) ks s9 = target ∧ rzLen g w11 = s9.length) ∨
      (b = false ∧ ((er = 0 ∧ ∃ s9, Rz w13 g s9 ∧ target = .ok (pipeN neg ks, s9) ∧ ∀ k, ks = [k] → k = y) ∨ ∃ k : Nat, k ≠ 0 ∧ er = (k : Int) ∧ target = .bad k))), bsel_of (fun h0 => ?_) (fun h0 => ?_), ?_⟩, ?_⟩
  · have h0 := of_decide_eq_true h0
    rcases hst with ⟨_, s9, h9, hs9, hl9, hy9, ht9⟩ | ⟨k, hk, e, _⟩
    rotate_left
    · omega
    refine (rztake_spec h9 1 tPipe).mono ?_
    rintro _ w12 ⟨rfl, o12, h12⟩
    refine .inl ⟨_, rfl, nk.on o12, res.mod o12 (by omega), ?_⟩
    cases hx : isT 1 tPipe s9 with
    | true =>
      rw [if_pos hx] at h12
      exact .inl ⟨rfl, h0, s9, h12, hx, hs9, hl9, ht9, h9.len⟩
    | false =>
      rw [if_neg (by rw [hx]; decide)] at h12
      refine .inr ⟨rfl, .inl ⟨h0, s9, h12, ?_, hy9⟩⟩
      rw [← ht9, manyF_step (pipeS_sinks he _)]
      have hps : pipeS (lvS L).1 neg ks s9 = .ok (.inr (pipeN neg ks, s9)) := by unfold pipeS; rw [if_neg (by rw [hx]; decide)]
      rw [hps]
      rfl
  · have h0 := of_decide_eq_false h0
    rcases hst with ⟨e, _⟩ | hbad
    · exact absurd e h0
    · exact ⟨nk, res, .inr ⟨rfl, .inr hbad⟩⟩
  · rintro b _ w13 ⟨nk13, res13, hst13⟩
    refine bsel_of (fun hb => ?_) (fun hb => ?_)
    · rcases hst13 with ⟨_, h1⟩ | ⟨e, _⟩
      · exact ⟨nk13, res13, h1⟩
      · rw [hb] at e
        cases e
    rcases hst13 with ⟨e, _⟩ | ⟨_, hfin⟩
    · rw [hb] at e
      cases e
    obtain ⟨p, c, hvk⟩ := nk13.nb.ok.form
    have hvk : vk = .slice p ks.length c := hvk
    subst hvk
    have nb13 := nk13.nb
    have fin : ∀ (z : Nd) (w' : World) (cs' : List Value), Only g w w' → NdE w' (fun k => w.heap.size ≤ k ∧ k < w'.heap.size) z cs' → Mod (fun k => k = w.heap.size) w13 w' → (∀ s9, target = .ok (pipeN neg ks, s9) → (∀ k, ks = [k] → k = y) → z = pipeN neg ks) → RzP w g target (.returned (.tuple #[.agg ⟨cs'⟩, .int .i64 er])) w' := by
      intro z w' cs' o' hn' m' hz
      refine ⟨o', z, cs', er, rfl, hn', ?_⟩
      rcases hfin with ⟨e, s9, h9, ht, hy⟩ | ⟨k, hk, e, ht⟩
      · rw [ht]
        exact ⟨e, hz s9 ht hy, h9.mod m' fun k hk e => by omega⟩
      · rw [ht]
        exact ⟨hk, e⟩
    refine ⟨fun w16 => w16 = w13 ∧ ¬ (ks.length = 1 ∧ neg = false), ⟨fun b w14 => w14 = w13 ∧ (b = true ↔ ks.length = 1 ∧ neg = false), ⟨p, ks.length, c, nb13.row.lget rfl, bsel_of (fun e => ⟨neg, nb13.row.lget rfl, rfl, ?_⟩) (fun e => ⟨rfl, fun h => (by cases h), fun h => absurd h.1 (by have := of_decide_eq_false e; omega)⟩)⟩, ?_⟩, ?_⟩
    · have := of_decide_eq_true e
      cases neg with
      | true => exact ⟨fun h => (by cases h), fun h => (by cases h.2)⟩
      | false => exact ⟨fun _ => ⟨by omega, rfl⟩, fun _ => rfl⟩
    · rintro b _ w14 ⟨rfl, hb⟩
      refine bsel_of (fun hbt => ?_) (fun hbf => ⟨rfl, fun h => by rw [hb.2 h] at hbf; cases hbf⟩)
      obtain ⟨e1, e2⟩ := hb.1 hbt
      obtain ⟨k, rfl⟩ : ∃ k, ks = [k] := by
        match ks, e1 with
        | [k], _ => exact ⟨k, rfl⟩
      obtain ⟨cs, hr, hn⟩ := nk13.last
      refine nExitT_row hr (hn.mono fun k hk => ⟨hk.1, hk.2.1⟩) nb13.only res13 (Nat.lt_succ_self _) fun w' cs' m' o' hn' => fin y w' cs' o' hn' m' fun s9 _ hy => ?_
      rw [e2]
      exact (hy k rfl).symm
    · rintro _ w16 ⟨rfl, hno⟩
      refine nExitT_spec nb13 res13 (Nat.lt_succ_self _) fun w' cs' m' o' hn' => fin _ w' cs' o' hn' m' fun s9 _ hy => ?_
      rw [pipeN_two hno]
  · rintro _ w18 ⟨nk18, res18, h0, s9, h18, hx, hs9, hl9, ht9, hlen⟩
    have htl := isT_len hx
    have hll := linesF_le s9.tail
    have hsuf : linesF s9.tail <:+ s0 := (linesF_suf _).trans ((tail_suf _).trans hs9)
    refine (rzlines_spec h18).mono ?_
    rintro _ w19 ⟨rfl, o19, h19⟩
    have nk19 := nk18.on o19
    have res19 := res18.mod o19 (by omega)
    refine .inl ⟨rfl, (hc _ _ _ h19 (hb5.suf hsuf)).mono ?_⟩
    rintro e20 w20 ⟨o20, z, cs, er2, rfl, hnd, hmt⟩
    obtain ⟨pw, cw, pa, ca, pr, cr, po, co, pk, ck, rfl, _⟩ := hnd.outs
    obtain ⟨p, c, hvk⟩ := nk19.nb.ok.form
    have hvk : vk = .slice p ks.length c := hvk
    subst hvk
    refine .inl ⟨_, _, _, _, _, _, _, _, _, _, _, _, _, _, _, _, _, _, _, rfl, NK.next nk19 o20 hnd (show ks.length < 1000000 by omega) (fun p' c' w24 X' nk24 m24 => ?_) (fun w21 hc21 r21 hK => ⟨p, ks.length, c, hc21, _, _, _, _, _, _, _, _, _, _, _, _, _, _, _, _, _, _, r21.lget rfl, r21.lget rfl, r21.lget rfl, r21.lget rfl, r21.lget rfl, r21.lget rfl, r21.lget rfl, r21.lget rfl, hK⟩)⟩
    have res24 := (res19.mod o20 (by omega)).mod m24 (by omega)
    have hps : manyF (pipeS (lvS L).1 neg) ks s9 = ((lvS L).1 (linesF s9.tail)).and fun x => manyF (pipeS (lvS L).1 neg) (ks ++ [x.1]) x.2 := by
      rw [manyF_step (pipeS_sinks he _)]
      unfold pipeS
      rw [if_pos hx]
      cases (lvS L).1 (linesF s9.tail) <;> rfl
    rw [ht9] at hps
    cases hr : (lvS L).1 (linesF s9.tail) with
    | bad k =>
      rw [hr] at hmt hps
      refine ⟨⟨ks ++ [z], _, X', z, nk24, res24, by simp, by rw [List.length_append]; simp only [List.length_cons, List.length_nil]; omega, .inr ⟨k, hmt.1, hmt.2, hps⟩⟩, ?_⟩
      show (if er2 = 0 then _ else _) < (if er = 0 then _ else _)
      rw [if_neg (by have := hmt.1; have := hmt.2; omega), if_pos h0]
      omega
    | ok q =>
      rw [hr] at hmt hps
      obtain ⟨e1, rfl, h20⟩ := hmt
      have hq1 := he _ _ hr
      have hq2 := hsf _ _ hr
      have h24 := h20.mod m24 (by intro k hk e; omega)
      refine ⟨⟨ks ++ [q.1], _, X', q.1, nk24, res24, by simp, by rw [List.length_append]; simp only [List.length_cons, List.length_nil]; omega, .inl ⟨e1, q.2, h24, hq2.trans hsuf, by rw [List.length_append]; simp only [List.length_cons, List.length_nil]; omega, fun k hk => ?_, hps.symm⟩⟩, ?_⟩
      · have := congrArg List.length hk
        rw [List.length_append] at this
        simp only [List.length_cons, List.length_nil] at this
        exact absurd (List.eq_nil_of_length_eq_zero (by omega)) hne
      · show (if er2 = 0 then _ else _) < (if er = 0 then _ else _)
        rw [if_pos e1, if_pos h0, h24.len, hlen]
        omega
def TEnd (gr : Nat) (er : Int) (R : Ending → World → Prop) (w7 : World) : Prop :=
  ∃ vKind1 : Int, ∃ vNot1 : Bool, ∃ vName1 : List UInt8, ∃ (vWords1 : Option Addr) (vWordsL1 vWordsC1 : Nat), ∃ (vAssigns1 : Option Addr) (vAssignsL1 vAssignsC1 : Nat), ∃ (vRedirs1 : Option Addr) (vRedirsL1 vRedirsC1 : Nat), ∃ (vOps1 : Option Addr) (vOpsL1 vOpsC1 : Nat), ∃ (vKids1 : Option Addr) (vKidsL1 vKidsC1 : Nat), w7.cell? (Addr.mk gr 0 none) = some (.int .i64 vKind1) ∧ w7.cell? (Addr.mk gr 1 none) = some (.bool vNot1) ∧ w7.cell? (Addr.mk gr 2 none) = some (.string (S vName1)) ∧ w7.cell? (Addr.mk gr 3 none) = some (.slice vWords1 vWordsL1 vWordsC1) ∧ w7.cell? (Addr.mk gr 4 none) = some (.slice vAssigns1 vAssignsL1 vAssignsC1) ∧ w7.cell? (Addr.mk gr 5 none) = some (.slice vRedirs1 vRedirsL1 vRedirsC1) ∧ w7.cell? (Addr.mk gr 6 none) = some (.slice vOps1 vOpsL1 vOpsC1) ∧ w7.cell? (Addr.mk gr 7 none) = some (.slice vKids1 vKidsL1 vKidsC1) ∧ R (.returned (.tuple #[(.agg #[(.int .i64 vKind1), (.bool vNot1), (.string (S vName1)), (.slice vWords1 vWordsL1 vWordsC1), (.slice vAssigns1 vAssignsL1 vAssignsC1), (.slice vRedirs1 vRedirsL1 vRedirsC1), (.slice vOps1 vOpsL1 vOpsC1), (.slice vKids1 vKidsL1 vKidsC1)]), (.int .i64 er)])) w7
def Res (g : Nat) (target : Rs (Nd × Ts)) (f : Nd) (er : Int) (w : World) : Prop := (er = 0 ∧ ∃ s9, Rz w g s9 ∧ target = .ok (f, s9)) ∨ ∃ k : Nat, k ≠ 0 ∧ er = (k : Int) ∧ target = .bad k
theorem Res.mod {S : Nat → Prop} {w' : World} {g : Nat} {target : Rs (Nd × Ts)} {f : Nd} {er : Int} (h : Res g target f er w) (hm : Mod S w w') (hS : ∀ k, k ≤ g → ¬ S k) : Res g target f er w' := by
  rcases h with ⟨e, s9, h9, ht⟩ | h
  · exact .inl ⟨e, s9, h9.mod hm hS, ht⟩
  · exact .inr h
theorem Res.still {w' : World} {g : Nat} {target : Rs (Nd × Ts)} {f : Nd} {er : Int} (h : Res g target f er w) (hm : Still w w') : Res g target f er w' := h.mod hm fun _ _ h => h
theorem Res.bad {g : Nat} {target : Rs (Nd × Ts)} {f : Nd} {er : Int} (h : Res g target f er w) (he : er ≠ 0) (f' : Nd) : Res g target f' er w := by
  rcases h with ⟨e, _⟩ | h
  · exact absurd e he
  · exact .inr h
theorem Res.rz {w0 : World} {g : Nat} {target : Rs (Nd × Ts)} {f : Nd} {er : Int} {cs : List Value} (h : Res g target f er w) (ho : Only g w0 w) (hn : NdE w (fun k => w0.heap.size ≤ k ∧ k < w.heap.size) f cs) : RzP w0 g target (.returned (.tuple #[.agg ⟨cs⟩, .int .i64 er])) w := by
  refine ⟨ho, f, cs, er, rfl, hn, ?_⟩
  rcases h with ⟨e, s9, h9, ht⟩ | ⟨k, hk, e, ht⟩
  · rw [ht]
    exact ⟨e, rfl, h9⟩
  · rw [ht]
    exact ⟨hk, e⟩
theorem RzP.res {w0 : World} {g : Nat} {r : Rs (Nd × Ts)} {e : Ending} (h : RzP w0 g r e w) : Only g w0 w ∧ ∃ (x : Nd) (pw : Option Addr) (cw : Nat) (pa : Option Addr) (ca : Nat) (pr : Option Addr) (cr : Nat) (po : Option Addr) (co : Nat) (pk : Option Addr) (ck : Nat) (er : Int),
    e = .returned (.tuple #[.agg ⟨ncell x (.slice pw x.ws.length cw) (.slice pa x.as.length ca) (.slice pr x.rs.length cr) (.slice po x.os.length co) (.slice pk x.ks.length ck)⟩, .int .i64 er]) ∧ NdE w (fun k => w0.heap.size ≤ k ∧ k < w.heap.size) x (ncell x (.slice pw x.ws.length cw) (.slice pa x.as.length ca) (.slice pr x.rs.length cr) (.slice po x.os.length co) (.slice pk x.ks.length ck)) ∧ Res g r x er w := by
  obtain ⟨o, x, cs, er, rfl, hn, hm⟩ := h
  obtain ⟨pw, cw, pa, ca, pr, cr, po, co, pk, ck, rfl, _⟩ := hn.outs
  refine ⟨o, x, pw, cw, pa, ca, pr, cr, po, co, pk, ck, er, rfl, hn, ?_⟩
  cases r with
  | bad k => exact .inr ⟨k, hm.1, hm.2, rfl⟩
  | ok y =>
    obtain ⟨e1, rfl, h1⟩ := hm
    exact .inl ⟨e1, y.2, h1, rfl⟩
theorem tEnd_of {w0 : World} {g : Nat} {x : Nd} {vw va vr vo vk : Value} {er : Int} {target : Rs (Nd × Ts)} (hf : Res g target x er w) (hg : g < w0.heap.size) (ho : Only g w0 w) (hres : Row w w0.heap.size 31 ⟨zcell⟩) (hn : NdE w (fun k => w0.heap.size < k ∧ k < w.heap.size) x (ncell x vw va vr vo vk)) :
    stCells (Addr.mk w0.heap.size 0 none) (TEnd w0.heap.size er (RzP w0 g target)) 0 (ncell x vw va vr vo vk) w := by
  obtain ⟨vw', va', vr', vo', vk', he, f1, f2, f3, f4, f5⟩ := hn.out
  have e1 : vw = vw' := Option.some.inj (congrArg (fun l : List Value => l[3]?) he)
  have e2 : va = va' := Option.some.inj (congrArg (fun l : List Value => l[4]?) he)
  have e3 : vr = vr' := Option.some.inj (congrArg (fun l : List Value => l[5]?) he)
  have e4 : vo = vo' := Option.some.inj (congrArg (fun l : List Value => l[6]?) he)
  have e5 : vk = vk' := Option.some.inj (congrArg (fun l : List Value => l[7]?) he)
  subst e1 e2 e3 e4 e5
  obtain ⟨pw, cw, rfl⟩ := f1.form
  obtain ⟨pa, ca, rfl⟩ := f2.form
  obtain ⟨pr, cr, rfl⟩ := f3.form
  obtain ⟨po, co, rfl⟩ := f4.form
  obtain ⟨pk, ck, rfl⟩ := f5.form
  refine stK hres (by simp) (by simp [Value.oneCell']) fun w' r' m' z' => ?_
  refine ⟨_, _, _, _, _, _, _, _, _, _, _, _, _, _, _, _, _, _, r'.lget rfl, r'.lget rfl, r'.lget rfl, r'.lget rfl, r'.lget rfl, r'.lget rfl, r'.lget rfl, r'.lget rfl, ?_⟩
  exact (hf.mod m' fun k hk e => by omega).rz (Mod.trans ho m' (fun _ h => h) (fun i hi e => by omega)) ((hn.mod m' fun k hk e => by omega).mono fun k hk => ⟨by omega, by omega⟩)
theorem tEnd_bad {w0 : World} {g k : Nat} {target : Rs (Nd × Ts)} (ht : target = .bad k) (hk : k ≠ 0) (hg : g < w0.heap.size) (ho : Only g w0 w) (hres : Row w w0.heap.size 31 ⟨zcell⟩) :
    stCells (Addr.mk w0.heap.size 0 none) (TEnd w0.heap.size (k : Int) (RzP w0 g target)) 0 zcell w := tEnd_of (x := nd0) (.inr ⟨k, hk, rfl, ht⟩) hg ho hres (zero_nde _ _)
theorem nEndB {w0 : World} {g gn B : Nat} {X : Nat → Prop} {x : Nd} {vw va vr vo vk : Value} {er : Int} {target : Rs (Nd × Ts)} (h : NB w0 w g gn B X x vw va vr vo vk) (hres : Row w w0.heap.size 31 ⟨zcell⟩) (hB : w0.heap.size < B) (hf : Res g target x er w) : NExitT gn w0.heap.size er w (RzP w0 g target) :=
  nExitT_spec h hres hB fun w' cs m' o' hn' => (hf.mod m' fun k hk e => by have := h.hg; omega).rz o' hn'
theorem nEndR {w0 : World} {g gn B : Nat} {x : Nd} {cs : List Value} {er : Int} {target : Rs (Nd × Ts)} (hr : Row w gn 31 ⟨cs⟩) (hn : NdE w (fun k => B ≤ k ∧ k < w.heap.size) x cs) (hg : g < w0.heap.size) (ho : Only g w0 w) (hres : Row w w0.heap.size 31 ⟨zcell⟩) (hB : w0.heap.size < B) (hf : Res g target x er w) : NExitT gn w0.heap.size er w (RzP w0 g target) :=
  nExitT_row hr hn ho hres hB fun w' cs m' o' hn' => (hf.mod m' fun k hk e => by omega).rz o' hn'
theorem rzor_spec (er : Int) : Calls Tryz.prog fn_ref09_or #[.int .i64 er] w (fun e w' => e = .returned (.int .i64 (if er = 0 then 100 else er)) ∧ w' = w) := by
  refine ref09_or_calls _ _ _ ?_
  refine bsel_of (fun h => ⟨?_, rfl⟩) (fun h => ⟨?_, rfl⟩)
  · rw [if_pos (of_decide_eq_true h)]
  · rw [if_neg (of_decide_eq_false h)]
theorem NB.mkKs {w0 : World} {g gn B : Nat} {x : Nd} {ks : List Nd} {b : Nat} {xs : List Value} {Y : Nat → Prop} (hr : Row w gn 31 ⟨ncell x (.slice none 0 0) (.slice none 0 0) (.slice none 0 0) (.slice none 0 0) (.slice (some ⟨b, 0, none⟩) ks.length ks.length)⟩) (hb : Row w b 31 ⟨xs⟩) (hc : ndE.Cs w (fun k => B ≤ k ∧ k < w.heap.size ∧ k ≠ gn ∧ k ≠ b ∧ ¬ Y k) ks xs) (ho : Only g w0 w) (hg : g < w0.heap.size) (hB : w0.heap.size ≤ B) (hgn : B ≤ gn) (hbB : B ≤ b) (hne : b ≠ gn) (hY : ∀ k, Y k → k < w.heap.size ∧ B ≤ k) (hl : ks.length ≤ 1000000) (hx : x.ws = [] ∧ x.as = [] ∧ x.rs = [] ∧ x.os = [] ∧ x.ks = ks) :
    NB w0 w g gn B (fun k => k = gn ∨ k = b ∨ Y k) x (.slice none 0 0) (.slice none 0 0) (.slice none 0 0) (.slice none 0 0) (.slice (some ⟨b, 0, none⟩) ks.length ks.length) := by
  obtain ⟨h1, h2, h3, h4, h5⟩ := hx
  refine ⟨hr, ho, hg, hB, hgn, fun k hk => ?_, .inl rfl, ?_, ?_, ?_, ?_, ?_⟩
  · rcases hk with rfl | rfl | hk
    · exact ⟨hr.lt, hgn⟩
    · exact ⟨hb.lt, hbB⟩
    · exact hY k hk
  · rw [h1]; exact Enc.OutX.nil _ _ _ _ _ _
  · rw [h2]; exact Enc.OutX.nil _ _ _ _ _ _
  · rw [h3]; exact Enc.OutX.nil _ _ _ _ _ _
  · rw [h4]; exact Enc.OutX.nil _ _ _ _ _ _
  · rw [h5]
    exact Enc.OutX.row hb hbB hne (.inr (.inl rfl)) hl (hc.turn (fun k hk => ⟨hk.1, hk.2.1, fun h => h.elim hk.2.2.1 fun h => h.elim hk.2.2.2.1 hk.2.2.2.2⟩) (fun _ _ _ h => h))
theorem cs_one {F : Nat → Prop} {x : Nd} {cs : List Value} (h : NdE w F x cs) : ndE.Cs w F [x] cs := Enc.Cs.single (e := ndE) h
theorem cs_two {F : Nat → Prop} {x y : Nd} {cs ds : List Value} (h1 : NdE w F x cs) (h2 : NdE w F y ds) : ndE.Cs w F [x, y] (cs ++ ds) := Enc.Cs.append (Enc.Cs.single (e := ndE) h1) (Enc.Cs.single (e := ndE) h2)
theorem NB.addO2 {w0 : World} {g gn B : Nat} {X : Nat → Prop} {x : Nd} {vw va vr vk : Value} {p : Option Addr} {n c : Nat} {y : Txt} {cs : List Value} (h2 : NB w0 w g gn B X x vw va vr (.slice p n c) vk) (hy : osE.E w (fun k => B ≤ k ∧ k < w.heap.size ∧ ¬ X k) y cs) (hn : x.os.length < 1000000) {K : World → Prop}
    (hK : ∀ p' c' w' X', NB w0 w' g gn B X' (x.addO y) vw va vr (.slice p' (n + 1) c') vk → Mod (fun k => (Value.slice p n c).ownBlock = some k ∨ k = gn) w w' → (∀ k, X k → X' k) → (∀ k, X' k → X k ∨ w.heap.size ≤ k) → (∀ k, (Value.slice p' (n + 1) c').ownBlock = some k → (Value.slice p n c).ownBlock = some k ∨ w.heap.size ≤ k) → K w') :
    letW (w.alloc (.cells ⟨cs⟩ 9)) (fun w2 => w2.cell? (Addr.mk gn 6 none) = some (.slice p n c) ∧ appK w2 9 1 16 p n c (some (Addr.mk w.heap.size 0 none)) 1 (fun p' c' w9 => stCells (Addr.mk gn 6 none) K 0 [.slice p' (n + 1) c'] w9)) := by
  obtain ⟨_, _, _, he, _, hg, _⟩ := id h2.oo
  injection he with _ en _
  have hgl := h2.row.lt
  have hsz := h2.only.size
  have hgn := h2.hgn
  have hB := h2.hB
  refine Enc.OutX.push2 (Sw := fun wq => wq.cell? (Addr.mk gn 6 none) = some (.slice p n c)) h2.oo (by omega) (fun k hk => (h2.xs k hk).1) hgl (fun wq hq => (h2.row.still hq).lget rfl) hy (by omega) (by omega) fun p' c' w9 ho9 hm9 hw9 hl9 hf9 => ?_
  have hr9 := h2.row.mod hm9 (fun hk => (hg gn hk).2 rfl)
  refine stK hr9 (by simp) (by simp [Value.oneCell']) fun w10 r10 m10 z10 => hK p' c' w10 (fun k => X k ∨ (Value.slice p' (n + 1) c').ownBlock = some k) ?_ ?_ (fun _ h => .inl h) (fun k hk => hk.elim .inl fun h => hw9 k h) hf9
  rotate_left
  · exact Mod.trans hm9 m10 (fun k hk => .inl hk) (fun k _ hk => .inr hk)
  have hz9 := hm9.size
  have hz10 := m10.size
  have oth : ∀ {β : Type} {f : Enc β} {u : TypeId} {m : List β} {v' : Value}, f.OutX w B u X gn m v' → (∀ k, (Value.slice p n c).ownBlock = some k → v'.ownBlock ≠ some k) → f.OutX w10 B u (fun k => X k ∨ (Value.slice p' (n + 1) c').ownBlock = some k) gn m v' := by
    intro β f u m v' hf hne
    obtain ⟨_, _, _, _, _, hgv, _⟩ := id hf
    exact (hf.mod hm9 (fun k _ _ hs => ⟨(hg k hs).1, hne k hs⟩) (fun _ h => .inl h) (fun k hk => hk.elim .inl (fun h => hw9 k h))).mod m10 (fun k _ _ e => by subst e; exact ⟨.inl h2.xg, fun hk => (hgv _ hk).2 rfl⟩) (fun _ h => h) (fun _ h => .inl h)
  have own10 := ho9.mod m10 (X' := fun k => X k ∨ (Value.slice p' (n + 1) c').ownBlock = some k) (fun k _ _ e => by
    subst e
    obtain ⟨_, _, _, _, _, hgv, _⟩ := id ho9
    exact ⟨.inl h2.xg, fun hk => (hgv _ hk).2 rfl⟩) (fun _ h => h) (fun _ h => .inl h)
  have hlow : ∀ k, (Value.slice p' (n + 1) c').ownBlock = some k → B ≤ k := fun k hk => by
    rcases hw9 k hk with hk | hk
    · exact (h2.xs k hk).2
    · omega
  refine ⟨r10, Mod.trans (Mod.trans h2.only hm9 (fun _ h => h) (fun i hi hk => by have := (h2.xs _ (hg _ hk).1).2; omega)) m10 (fun _ h => h) (fun i hi e => by omega), h2.hg, hB, hgn, fun k hk => ?_, .inl h2.xg, oth h2.ow (fun k hk => h2.oo.apart h2.ow (by decide) hk), oth h2.oa (fun k hk => h2.oo.apart h2.oa (by decide) hk), oth h2.ord (fun k hk => h2.oo.apart h2.ord (by decide) hk), own10, oth h2.ok (fun k hk => h2.oo.apart h2.ok (by decide) hk)⟩
  rcases hk with hk | hk
  · have := h2.xs k hk
    exact ⟨by omega, this.2⟩
  · have := hl9 k hk
    exact ⟨by omega, hlow k hk⟩
end Go.Proofs.YtcoeiiihmpnagaaGreatDoor
