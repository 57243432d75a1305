/- Texts of one proof, one behind the other. Conditions: as each theorem names them. -/
import Derived.Test.YtcoeiiihmpnagaaGreatDoorQ9
namespace Go.Proofs.YtcoeiiihmpnagaaGreatDoor
open Go.RowKit Vc
variable {w : World}
theorem NK.addO {w0 : World} {g gn kb B : Nat} {X : Nat → Prop} {x y : Nd} {vk : Value} {p : Option Addr} {n c : Nat} {t : Txt} (h : NK w0 w g gn kb B X x (.slice p n c) vk y) (hn : x.os.length < 1000000) {Sw K : World → Prop} (hS : ∀ w1, Still w w1 → Sw w1)
    (hK : ∀ p' c' w' X', NK w0 w' g gn kb B X' (x.addO t) (.slice p' (n + 1) c') vk y → Mod (fun k => B ≤ k) w w' → K w') :
    letW (w.alloc (.cells ⟨[.string (S t)]⟩ 9)) (fun w2 => Sw w2 ∧ appK w2 9 1 16 p n c (some (Addr.mk w.heap.size 0 none)) 1 (fun p' c' w9 => stCells (Addr.mk gn 6 none) K 0 [.slice p' (n + 1) c'] w9)) := by
  obtain ⟨nb, xk, ne, o1, o2, cs, hr, hn0⟩ := h
  have hkb := nb.xs kb xk
  have hgn := nb.hgn
  have h0 := NB.addO2 (K := K) nb (y := t) (cs := [.string (S t)]) rfl hn fun p' c' w' X' nb3 m3 hXX hXY hown => hK p' c' w' X' ⟨nb3, hXX _ xk, ne, fun hk => ?_, o2, cs, hr.mod m3 (fun hk => ?_), ?_⟩ ?_
  · exact And.intro (hS _ ((Mod.refl _ _).alloc _)) h0.2
  · rcases hown _ hk with hk | hk
    · exact o1 hk
    · omega
  · rcases hk with hk | hk
    · exact o1 hk
    · exact ne hk
  · have hz3 := m3.size
    obtain ⟨_, _, _, _, _, hg, _⟩ := id nb.oo
    exact (hn0.mod m3 fun k hk hs => hk.2.2 (hs.elim (fun h => (hg k h).1) (fun h => h ▸ nb.xg))).mono fun k hk => ⟨hk.1, by have := hk.2.1; omega, fun hx => (hXY k hx).elim hk.2.2 fun h => by have := hk.2.1; omega⟩
  · obtain ⟨_, _, _, _, _, hg, _⟩ := id nb.oo
    exact Mod.trans (Mod.refl _ _) m3 (fun _ h => h) (fun k _ hs => hs.elim (fun h => (nb.xs k (hg k h).1).2) (fun h => by omega))
theorem andN_some {os : List Txt} {ks : List Nd} (h : os ≠ []) : andN os ks = .mk 2 false [] [] [] [] os ks := by
  cases os with
  | nil => exact absurd rfl h
  | cons a r => rfl
theorem rzand_of {L : Nat} (hc : RCmdS L) {g : Nat} {s : Ts} (h : Rz w g s) (hb : TB s) : Calls Tryz.prog fn_ref09_parser_andOr #[.pointer (some ⟨g, 0, none⟩), .int .i64 (31 - (L : Int))] w (RzP w g (andF (lvS L).1 s)) := by
  refine ref09_parser_andOr_calls _ _ _ _ ?_
  have hg := h.lt
  have he := (lvS_eats L).1
  have hsf := (lvS_suf L).1
  have hpe := pipeF_eats he
  have hps := pipeF_suf hsf
  have hs0 := hb.1
  have hlv : andF (lvS L).1 s = (pipeF (lvS L).1 s).and fun x => manyF (andS (lvS L).1) ([], [x.1]) x.2 := rfl
  rw [hlv]
  clear hlv
  refine allocK fun w1 r1 s1 z1 => (rzpipe_of hc (h.still s1) hb).mono ?_
  rintro e2 w2 hp
  obtain ⟨o2, x, pw, cw, pa, ca, pr, cr, po, co, pk, ck, er, rfl, hnd, hm⟩ := hp.res
  have hz2 := o2.size
  have res2 : Row w2 w.heap.size 31 ⟨zcell⟩ := r1.mod o2 (by omega)
  refine .inl ⟨_, _, _, _, _, _, _, _, _, _, _, _, _, _, _, _, _, _, _, rfl, boxK rfl (by simp [Value.oneCell']) fun w4 r4 s4 z4 => ?_⟩
  refine ⟨_, _, _, _, _, _, _, _, _, _, _, _, _, _, _, _, _, _, r4.lget rfl, r4.lget rfl, r4.lget rfl, r4.lget rfl, r4.lget rfl, r4.lget rfl, r4.lget rfl, r4.lget rfl, allocK fun w5 r5 s5 z5 => boxK rfl (by simp [Value.oneCell']) fun w7 r7 s7 z7 => ?_⟩
  have s27 := (s4.trans s5).trans s7
  have nd7 : NdE w7 (fun k => w.heap.size + 1 ≤ k ∧ k < w7.heap.size ∧ k ≠ w5.heap.size ∧ k ≠ w4.heap.size ∧ ¬ k = w2.heap.size) x _ := (hnd.still s27).mono fun k hk => by
    have h1 : w1.heap.size ≤ k := hk.1
    have h2 : k < w2.heap.size := hk.2
    exact ⟨by omega, by omega, by omega, by omega, by omega⟩
  have o7 : Only g w w7 := (s1.only.tr o2).tr s27.only
  have nb7 := NB.mkKs (w0 := w) (g := g) (gn := w5.heap.size) (B := w.heap.size + 1) (x := .mk 2 false [] [] [] [] [] [x]) (ks := [x]) (Y := fun k => k = w2.heap.size) r7 (r5.still s7) (cs_one nd7) o7 hg (by omega) (by omega) (by omega) (by omega) (fun k hk => by omega) (show 1 ≤ 1000000 by decide) ⟨rfl, rfl, rfl, rfl, rfl⟩
  have r47 := (r4.still s5).still s7
  have nk7 : NK w w7 g w5.heap.size w2.heap.size (w.heap.size + 1) (fun k => k = w5.heap.size ∨ k = w4.heap.size ∨ k = w2.heap.size) (.mk 2 false [] [] [] [] [] [x]) (.slice none 0 0) (.slice (some ⟨w4.heap.size, 0, none⟩) 1 1) x := by
    refine ⟨nb7, .inr (.inr rfl), by omega, (fun h => by cases h), (fun h => ?_), _, r47, nd7.mono fun k hk => ⟨hk.1, hk.2.1, fun hx => ?_⟩⟩
    · have h8 : w4.heap.size = w2.heap.size := Option.some.inj h
      omega
    · rcases hx with hx | hx | hx
      · exact hk.2.2.1 hx
      · exact hk.2.2.2.1 hx
      · exact hk.2.2.2.2 hx
  have res7 := res2.still s27
  have hm7 := hm.still s27
  have hkb : w.heap.size + 1 ≤ w2.heap.size := by omega
  have hgn : w.heap.size + 1 ≤ w5.heap.size := by omega
  generalize w5.heap.size = gn at *
  generalize w2.heap.size = kb at *
  clear s7 r7 r47 r5 s5 r4 s4 nd7 nb7 hnd s27 z4 z5 z7 hm res2
  generalize htg : ((pipeF (lvS L).1 s).and fun x => manyF (andS (lvS L).1) ([], [x.1]) x.2) = target
  refine ⟨fun er w9 => ∃ os ks vo vk X y, NK w w9 g gn kb (w.heap.size + 1) X (.mk 2 false [] [] [] [] os ks) vo vk y ∧ Row w9 w.heap.size 31 ⟨zcell⟩ ∧ ks.length ≤ 30000 ∧ os.length ≤ 30000 ∧ ((er = 0 ∧ ∃ s9, Rz w9 g s9 ∧ s9 <:+ s ∧ ks.length + s9.length ≤ s.length ∧ os.length + s9.length ≤ s.length ∧ (os = [] → ks = [y]) ∧ manyF (andS (lvS L).1) (os, ks) s9 = target) ∨ (∃ k : Nat, k ≠ 0 ∧ er = (k : Int) ∧ target = .bad k)), fun er w => if er = 0 then rzLen g w + 1 else 0, ?_, ?_⟩
  · refine ⟨[], [x], _, _, _, x, nk7, res7, by simp, by simp, ?_⟩
    rcases hm7 with ⟨e, s9, h9, ht⟩ | ⟨k, hk, e, ht⟩
    · have h1 := hpe _ _ ht
      have h2 := hps _ _ ht
      rw [ht] at htg
      exact .inl ⟨e, s9, h9, h2, by simp only [List.length_cons, List.length_nil]; dsimp only at h1; omega, by simp only [List.length_nil]; dsimp only at h1; omega, fun _ => rfl, htg⟩
    · rw [ht] at htg
      exact .inr ⟨k, hk, e, htg.symm⟩
  rintro er _ w8 ⟨os, ks, vo, vk, X, y, nk, res, hkl, hol, hst⟩
  refine ⟨fun w14 => NK w w14 g gn kb (w.heap.size + 1) X (.mk 2 false [] [] [] [] os ks) vo vk y ∧ Row w14 w.heap.size 31 ⟨zcell⟩ ∧ er = 0 ∧ ∃ k t r, Rz w14 g ((k, t) :: r) ∧ andB ((k, t) :: r) = true ∧ ((k, t) :: r) <:+ s ∧ ks.length + (r.length + 1) ≤ s.length ∧ os.length + (r.length + 1) ≤ s.length ∧ manyF (andS (lvS L).1) (os, ks) ((k, t) :: r) = target ∧ rzLen g w8 = r.length + 1,
    ⟨fun b w13 => NK w w13 g gn kb (w.heap.size + 1) X (.mk 2 false [] [] [] [] os ks) vo vk y ∧ Row w13 w.heap.size 31 ⟨zcell⟩ ∧ ((b = true ∧ er = 0 ∧ ∃ k t r, Rz w13 g ((k, t) :: r) ∧ andB ((k, t) :: r) = true ∧ ((k, t) :: r) <:+ s ∧ ks.length + (r.length + 1) ≤ s.length ∧ os.length + (r.length + 1) ≤ s.length ∧ manyF (andS (lvS L).1) (os, ks) ((k, t) :: r) = target ∧ rzLen g w8 = r.length + 1) ∨
      (b = false ∧ Res g target (andN os ks) er w13 ∧ (er = 0 → os = [] → ks = [y]))), bsel_of (fun h0 => ?_) (fun h0 => ?_), ?_⟩, ?_⟩
  · have h0 := of_decide_eq_true h0
    rcases hst with ⟨_, s9, h9, hs9, hl9, hl9', hy9, ht9⟩ | ⟨k, hk, e, _⟩
    rotate_left
    · omega
    have yes : ∀ w', Still w8 w' → andB s9 = true → ∃ k t r, Rz w' g ((k, t) :: r) ∧ andB ((k, t) :: r) = true ∧ ((k, t) :: r) <:+ s ∧ ks.length + (r.length + 1) ≤ s.length ∧ os.length + (r.length + 1) ≤ s.length ∧ manyF (andS (lvS L).1) (os, ks) ((k, t) :: r) = target ∧ rzLen g w8 = r.length + 1 := by
      intro w' s' hx
      match s9, h9, hs9, hl9, hl9', ht9, hx with
      | (k, t) :: r, h9, hs9, hl9, hl9', ht9, hx => exact ⟨k, t, r, h9.still s', hx, hs9, hl9, hl9', ht9, h9.len⟩
    refine (rzis_spec h9 1 tAnd).mono ?_
    rintro _ w9 ⟨rfl, s91⟩
    refine .inl ⟨_, rfl, bsel_of (fun hx => ⟨nk.still s91, res.still s91, .inl ⟨rfl, h0, yes _ s91 ?_⟩⟩) (fun hx => (rzis_spec (h9.still s91) 1 tOr).mono ?_)⟩
    · unfold andB; rw [hx]; rfl
    rintro _ w10 ⟨rfl, s10⟩
    have s810 := s91.trans s10
    refine .inl ⟨_, rfl, nk.still s810, res.still s810, ?_⟩
    cases hy : isT 1 tOr s9 with
    | true => exact .inl ⟨rfl, h0, yes _ s810 (by unfold andB; rw [hx, hy]; rfl)⟩
    | false =>
      refine .inr ⟨rfl, .inl ⟨h0, s9, h9.still s810, ?_⟩, fun _ => hy9⟩
      rw [← ht9, manyF_step (andS_sinks he)]
      have hno : andB s9 = false := by unfold andB; rw [hx, hy]; rfl
      have hst : andS (lvS L).1 (os, ks) s9 = .ok (.inr (andN os ks, s9)) := by
        match s9, hno with
        | [], _ => rfl
        | (k, t) :: r, hno =>
          show (if andB ((k, t) :: r) = true then _ else _) = _
          rw [if_neg (by rw [hno]; decide)]
      rw [hst]
      rfl
  · have h0 := of_decide_eq_false h0
    rcases hst with ⟨e, _⟩ | hbad
    · exact absurd e h0
    · exact ⟨nk, res, .inr ⟨rfl, .inr hbad, fun e => absurd e h0⟩⟩
  · rintro b _ w13 ⟨nk13, res13, hst13⟩
    refine bsel_of (fun hb => ?_) (fun hb => ?_)
    · rcases hst13 with ⟨_, h1⟩ | ⟨e, _⟩
      · exact ⟨nk13, res13, h1⟩
      · rw [hb] at e
        cases e
    rcases hst13 with ⟨e, _⟩ | ⟨_, hfin, hy⟩
    · rw [hb] at e
      cases e
    obtain ⟨p, c, hvo⟩ := nk13.nb.oo.form
    have hvo : vo = .slice p os.length c := hvo
    subst hvo
    refine ⟨p, os.length, c, nk13.nb.row.lget rfl, bsel_of (fun h0 => ?_) (fun h0 => ?_)⟩
    · have hos : os = [] := List.eq_nil_of_length_eq_zero (by have := of_decide_eq_true h0; omega)
      obtain ⟨cs, hr, hn⟩ := nk13.last
      refine nEndR hr (hn.mono fun k hk => ⟨hk.1, hk.2.1⟩) hg nk13.nb.only res13 (Nat.lt_succ_self _) ?_
      by_cases e0 : er = 0
      · rw [hy e0 hos, hos] at hfin
        exact hfin
      · exact hfin.bad e0 y
    · have hos : os ≠ [] := fun e => by rw [e] at h0; exact absurd rfl (of_decide_eq_false h0)
      rw [andN_some hos] at hfin
      exact nEndB nk13.nb res13 (Nat.lt_succ_self _) hfin
  · rintro _ w14 ⟨nk14, res14, h0, k, t, r, h14, hx, hs9, hl9, hl9', ht9, hlen⟩
    obtain ⟨p, c, hvo⟩ := nk14.nb.oo.form
    have hvo : vo = .slice p os.length c := hvo
    subst hvo
    obtain ⟨LL, cc, n, bb, hn, hl, _, hs⟩ := h14.at
    have nkd := nk14.still (drew_still w14)
    refine ⟨fun wq => Still w14 wq, drew_still w14, p, os.length, c, fun wq hq => (nk14.still hq).nb.row.lget rfl, some bb, LL, cc, fun wq hq => (hs wq hq).1, n, fun wq hq => (hs wq hq).2.1, by omega, by omega, t, fun wq hq => (hs wq hq).2.2.2.2, ?_⟩
    refine NK.addO (t := t) nkd (show os.length < 1000000 by omega) (fun w1 h1 => (drew_still w14).trans h1) fun p' c' w17 X17 nk17 m17 => ?_
    have h17 := (h14.still (drew_still w14)).mod m17 (by intro k hk e; have := h14.lt; omega)
    have res17 := (res14.still (drew_still w14)).mod m17 (by omega)
    refine h17.step fun w18 o18 h18 => (rzlines_spec h18).mono ?_
    rintro _ w19 ⟨rfl, o19, h19⟩
    have nk19 := (nk17.on o18).on o19
    have res19 := (res17.mod o18 (by omega)).mod o19 (by omega)
    have hsuf : linesF r <:+ s := (linesF_suf _).trans ((List.suffix_cons _ _).trans hs9)
    have hll := linesF_le r
    refine .inl ⟨rfl, (rzpipe_of hc h19 (hb.suf hsuf)).mono ?_⟩
    rintro e20 w20 hp
    obtain ⟨o20, z, pw, cw, pa, ca, pr, cr, po, co, pk, ck, er2, rfl, hnd, hm⟩ := hp.res
    obtain ⟨pp, cp, hvk⟩ := nk19.nb.ok.form
    have hvk : vk = .slice pp ks.length cp := hvk
    subst hvk
    refine .inl ⟨_, _, _, _, _, _, _, _, _, _, _, _, _, _, _, _, _, _, _, rfl, NK.next nk19 o20 hnd (show ks.length < 1000000 by omega) (fun p' c' w24 X' nk24 m24 => ?_) (fun w21 hc21 r21 hK => ⟨pp, ks.length, cp, hc21, _, _, _, _, _, _, _, _, _, _, _, _, _, _, _, _, _, _, r21.lget rfl, r21.lget rfl, r21.lget rfl, r21.lget rfl, r21.lget rfl, r21.lget rfl, r21.lget rfl, r21.lget rfl, hK⟩)⟩
    have res24 := (res19.mod o20 (by omega)).mod m24 (by omega)
    have hps' : manyF (andS (lvS L).1) (os, ks) ((k, t) :: r) = (pipeF (lvS L).1 (linesF r)).and fun x => manyF (andS (lvS L).1) (os ++ [t], ks ++ [x.1]) x.2 := by
      rw [manyF_step (andS_sinks he)]
      have hst : andS (lvS L).1 (os, ks) ((k, t) :: r) = (pipeF (lvS L).1 (linesF r)).and fun x => .ok (.inl ((os ++ [t], ks ++ [x.1]), x.2)) := by
        show (if andB ((k, t) :: r) = true then _ else _) = _
        rw [if_pos hx]
      rw [hst]
      cases pipeF (lvS L).1 (linesF r) <;> rfl
    rw [ht9] at hps'
    rcases hm with ⟨e1, s9, h20, hr⟩ | ⟨k2, hk2, e1, hr⟩
    · rw [hr] at hps'
      have hq1 := hpe _ _ hr
      have hq2 := hps _ _ hr
      dsimp only at hq1 hq2
      have h24 := h20.mod m24 (by intro k hk e; have := h20.lt; omega)
      refine ⟨⟨os ++ [t], ks ++ [z], _, _, X', z, nk24, res24, by rw [List.length_append]; simp only [List.length_cons, List.length_nil]; omega, by rw [List.length_append]; simp only [List.length_cons, List.length_nil]; omega, .inl ⟨e1, s9, h24, hq2.trans hsuf, by rw [List.length_append]; simp only [List.length_cons, List.length_nil]; omega, by rw [List.length_append]; simp only [List.length_cons, List.length_nil]; omega, fun h => absurd h (by simp), hps'.symm⟩⟩, ?_⟩
      show (if er2 = 0 then _ else _) < (if er = 0 then _ else _)
      rw [if_pos e1, if_pos h0, h24.len, hlen]
      omega
    · rw [hr] at hps'
      refine ⟨⟨os ++ [t], ks ++ [z], _, _, X', z, nk24, res24, by rw [List.length_append]; simp only [List.length_cons, List.length_nil]; omega, by rw [List.length_append]; simp only [List.length_cons, List.length_nil]; omega, .inr ⟨k2, hk2, e1, hps'⟩⟩, ?_⟩
      show (if er2 = 0 then _ else _) < (if er = 0 then _ else _)
      rw [if_neg (by omega), if_pos h0]
      omega
def LTail (gn gr : Nat) (empty : Bool) (w6 : World) (R : Ending → World → Prop) : Prop :=
  ∃ J2 : World → Prop, (∃ J3 : Bool → World → Prop, (∃ (v2 : Option Addr) (vL2 vC2 : Nat), w6.cell? (Addr.mk gn 7 none) = some (.slice v2 vL2 vC2) ∧ bsel (decide ((vL2 : Int) = (0 : Int))) (J3 (!empty) w6) (J3 false w6)) ∧ ∀ (x1 : Bool) (_us4 : Nat → Value) (w22 : World), J3 x1 w22 → bsel x1 (stCells (Addr.mk gr 0 none) (TEnd gr 100 R) 0 zcell w22) (J2 w22)) ∧ ∀ (_us5 : Nat → Value) (w24 : World), J2 w24 → NExitT gn gr 0 w24 R
def listE (cmd : Pr Nd) (empty : Bool) (s : Ts) : Rs (Nd × Ts) := (listF cmd s).and fun x => if x.1.ks = [] ∧ empty = false then .bad 100 else .ok x
theorem listE_true (cmd : Pr Nd) (s : Ts) : listE cmd true s = listF cmd s := by
  unfold listE
  cases listF cmd s with
  | bad k => rfl
  | ok x =>
    show (if x.1.ks = [] ∧ true = false then _ else _) = _
    rw [if_neg (fun h => by cases h.2)]
theorem listE_false (cmd : Pr Nd) (s : Ts) : listE cmd false s = someF cmd s := by
  unfold listE someF
  cases listF cmd s with
  | bad k => rfl
  | ok x =>
    show (if x.1.ks = [] ∧ false = false then _ else _) = if x.1.ks = [] then _ else _
    by_cases hx : x.1.ks = []
    · rw [if_pos ⟨hx, rfl⟩, if_pos hx]
    · rw [if_neg (fun h => hx h.1), if_neg hx]
theorem lTail_of {w0 : World} {g gn B : Nat} {X : Nat → Prop} {ks : List Nd} {vk : Value} {empty : Bool} {s9 : Ts} {t0 : Rs (Nd × Ts)} (nb : NB w0 w g gn B X (listN ks) (.slice none 0 0) (.slice none 0 0) (.slice none 0 0) (.slice none 0 0) vk) (hres : Row w w0.heap.size 31 ⟨zcell⟩) (hB : w0.heap.size < B) (h9 : Rz w g s9) (ht : t0 = .ok (listN ks, s9)) :
    LTail gn w0.heap.size empty w (RzP w0 g (t0.and fun x => if x.1.ks = [] ∧ empty = false then .bad 100 else .ok x)) := by
  have hg := nb.hg
  subst ht
  obtain ⟨p, c, hvk⟩ := nb.ok.form
  have hvk : vk = .slice p ks.length c := hvk
  subst hvk
  have e1 : ((Rs.ok (listN ks, s9)).and fun x => if x.1.ks = [] ∧ empty = false then .bad 100 else .ok x) = if ks = [] ∧ empty = false then .bad 100 else .ok (listN ks, s9) := rfl
  rw [e1]
  refine ⟨fun w24 => w24 = w ∧ ¬ (ks = [] ∧ empty = false), ⟨fun b w22 => w22 = w ∧ (b = true ↔ ks = [] ∧ empty = false), ⟨p, ks.length, c, nb.row.lget rfl, bsel_of (fun h => ⟨rfl, ?_⟩) (fun h => ⟨rfl, ?_⟩)⟩, ?_⟩, ?_⟩
  · have hk : ks = [] := List.eq_nil_of_length_eq_zero (by have := of_decide_eq_true h; omega)
    cases empty <;> simp [hk]
  · have hk : ks ≠ [] := fun e => by rw [e] at h; exact absurd rfl (of_decide_eq_false h)
    simp [hk]
  · rintro b _ w22 ⟨rfl, hb⟩
    refine bsel_of (fun h => ?_) (fun h => ⟨rfl, fun hk => by rw [hb.2 hk] at h; cases h⟩)
    rw [if_pos (hb.1 h)]
    exact tEnd_bad rfl (by decide) hg nb.only hres
  · rintro _ w24 ⟨rfl, hn⟩
    rw [if_neg hn]
    exact nEndB nb hres hB (.inl ⟨rfl, s9, h9, rfl⟩)
theorem rzlist_of {L : Nat} (hc : RCmdS L) {g : Nat} {s : Ts} (h : Rz w g s) (hb : TB s) (empty : Bool) : Calls Tryz.prog fn_ref09_parser_list #[.pointer (some ⟨g, 0, none⟩), .int .i64 (31 - (L : Int)), .bool empty] w (RzP w g (listE (lvS L).1 empty s)) := by
  refine ref09_parser_list_calls _ _ _ _ _ ?_
  have hg := h.lt
  have he := (lvS_eats L).1
  have hsf := (lvS_suf L).1
  have hae := andF_eats he
  have has := andF_suf hsf
  have hs0 := hb.1
  have hlv : listE (lvS L).1 empty s = (manyF (listS (lvS L).1) [] (linesF s)).and fun x => if x.1.ks = [] ∧ empty = false then .bad 100 else .ok x := rfl
  rw [hlv]
  clear hlv
  refine allocK fun w1 r1 s1 z1 => boxK rfl (by simp [Value.oneCell']) fun w3 r3 s3 z3 => (rzlines_spec ((h.still s1).still s3)).mono ?_
  rintro _ w4 ⟨rfl, o4, h4⟩
  have nb3 := NB.mk0 (w0 := w) (g := g) (B := w.heap.size + 1) (x := listN []) r3 (s1.trans s3).only hg (by omega) (by omega) ⟨rfl, rfl, rfl, rfl, rfl⟩
  have res3 := r1.still s3
  have nb4 := nb3.on o4
  have res4 : Row w4 w.heap.size 31 ⟨zcell⟩ := res3.mod o4 (by omega)
  have hb0 := hb.suf (linesF_suf s)
  have hl0 := hb0.1
  generalize linesF s = l0 at *
  have hgn : w.heap.size + 1 ≤ w1.heap.size := by omega
  generalize w1.heap.size = gn at *
  generalize htg : manyF (listS (lvS L).1) [] l0 = t0
  refine .inl ⟨rfl, fun w5 => ∃ ks vk X s9, NB w w5 g gn (w.heap.size + 1) X (listN ks) (.slice none 0 0) (.slice none 0 0) (.slice none 0 0) (.slice none 0 0) vk ∧ Row w5 w.heap.size 31 ⟨zcell⟩ ∧ Rz w5 g s9 ∧ s9 <:+ l0 ∧ ks.length + s9.length ≤ l0.length ∧ manyF (listS (lvS L).1) ks s9 = t0, rzLen g, ⟨[], _, _, l0, nb4, res4, h4, List.suffix_refl _, by simp only [List.length_nil]; omega, htg⟩, ?_⟩
  rintro _ w5 ⟨ks, vk, X, s9, nb5, res5, h5, hsf9, hlen, heq⟩
  have hm := manyF_step (listS_sinks he) ks s9
  rw [heq] at hm
  have hb9 := hb0.suf hsf9
  refine (rzends_spec h5).mono ?_
  rintro _ w6 ⟨rfl, s6⟩
  have nb6 := nb5.still s6
  have res6 := res5.still s6
  have h6 := h5.still s6
  refine .inl ⟨_, rfl, bsel_of (fun hx => ?_) (fun hx => ?_)⟩
  rotate_left
  · have hx : endsF s9 = true := by simpa using hx
    have hst : listS (lvS L).1 ks s9 = .ok (.inr (listN ks, s9)) := by unfold listS; rw [if_pos hx]
    rw [hst] at hm
    exact lTail_of nb6 res6 (Nat.lt_succ_self _) h6 hm
  have hx : endsF s9 = false := by simpa using hx
  have hst : listS (lvS L).1 ks s9 = (andF (lvS L).1 s9).and fun x =>
    if isT 1 tSemi x.2 = true then .ok (.inl (ks ++ [x.1], linesF x.2.tail))
    else if isT 2 [10] x.2 = true then .ok (.inl (ks ++ [x.1], linesF x.2))
    else .ok (.inr (listN (ks ++ [x.1]), x.2)) := by unfold listS; rw [if_neg (by rw [hx]; decide)]
  rw [hst] at hm
  clear hst
  refine (rzand_of hc h6 hb9).mono ?_
  rintro e7 w7 hp
  obtain ⟨o7, z, pw, cw, pa, ca, pr, cr, po, co, pk, ck, er, rfl, hnd, hm7⟩ := hp.res
  have hz7 := o7.size
  have hl6 := nb6.row.lt
  refine .inl ⟨_, _, _, _, _, _, _, _, _, _, _, _, _, _, _, _, _, _, _, rfl, boxK rfl (by simp [Value.oneCell']) fun w9 r9 s9' z9 => ?_⟩
  have res9 := (res6.mod o7 (by omega)).still s9'
  have hm9 := hm7.still s9'
  have o69 : Only g w6 w9 := o7.tr s9'.only
  refine bsel_of (fun hbad => ?_) (fun hok => ?_)
  · have hne : er ≠ 0 := nt hbad
    rcases hm9 with ⟨e, _⟩ | ⟨k, hk, e, hr⟩
    · exact absurd e hne
    rw [hr] at hm
    have hm : t0 = .bad k := hm
    rw [hm, e]
    exact tEnd_bad rfl hk hg (nb6.only.tr o69) res9
  have he0 : er = 0 := nf hok
  rcases hm9 with ⟨_, s10, h9, hr⟩ | ⟨k, hk, e, hr⟩
  rotate_left
  · omega
  rw [hr] at hm
  have hq1 := hae _ _ hr
  have hq2 := has _ _ hr
  dsimp only at hq1 hq2
  obtain ⟨pp, cp, hvk⟩ := nb6.ok.form
  have hvk : vk = .slice pp ks.length cp := hvk
  subst hvk
  refine ⟨pp, ks.length, cp, (nb6.on o69).row.lget rfl, _, _, _, _, _, _, _, _, _, _, _, _, _, _, _, _, _, _, r9.lget rfl, r9.lget rfl, r9.lget rfl, r9.lget rfl, r9.lget rfl, r9.lget rfl, r9.lget rfl, r9.lget rfl, ?_⟩
  have hnd9 := (hnd.still s9').mono (G := fun k => w6.heap.size ≤ k ∧ k < w9.heap.size) fun k hk => ⟨hk.1, by have := hk.2; omega⟩
  refine NB.addK' nb6 o69 hnd9 (show ks.length < 1000000 by omega) fun p' c' w13 X13 nb13 m13 => ?_
  have nb13 : NB w w13 g gn (w.heap.size + 1) X13 (listN (ks ++ [z])) (.slice none 0 0) (.slice none 0 0) (.slice none 0 0) (.slice none 0 0) (.slice p' (ks.length + 1) c') := nb13
  have res13 := res9.mod m13 (by omega)
  have h13 := h9.mod m13 (by intro k hk e; omega)
  refine (rztake_spec h13 1 tSemi).mono ?_
  rintro _ w14 ⟨rfl, o14, h14⟩
  have nb14 := nb13.on o14
  have res14 := res13.mod o14 (by omega)
  refine .inl ⟨_, rfl, bsel_of (fun hy => ?_) (fun hy => ?_)⟩
  rotate_left
  · have hy : isT 1 tSemi s10 = true := by simpa using hy
    rw [if_pos hy] at h14
    refine (rzlines_spec h14).mono ?_
    rintro _ w21 ⟨rfl, o21, h21⟩
    have hll := linesF_le s10.tail
    have htl := isT_len hy
    refine .inl ⟨rfl, ⟨ks ++ [z], _, X13, linesF s10.tail, nb14.on o21, res14.mod o21 (by omega), h21, (linesF_suf _).trans ((tail_suf _).trans (hq2.trans hsf9)), by simp only [List.length_append, List.length_cons, List.length_nil]; omega, ?_⟩, by rw [h21.len, h5.len]; omega⟩
    rw [hm, Rs.ok_and]
    dsimp only
    rw [if_pos hy]
    rfl
  have hy : isT 1 tSemi s10 = false := by simpa using hy
  rw [if_neg (by rw [hy]; decide)] at h14
  refine (rzis_spec h14 2 [10]).mono ?_
  rintro _ w15 ⟨rfl, s15⟩
  have nb15 := nb14.still s15
  have res15 := res14.still s15
  have h15 := h14.still s15
  refine .inl ⟨_, rfl, bsel_of (fun ht => ?_) (fun ht => ?_)⟩
  · have ht : isT 2 [10] s10 = false := by simpa using ht
    refine lTail_of nb15 res15 (Nat.lt_succ_self _) h15 ?_
    rw [hm, Rs.ok_and]
    dsimp only
    rw [if_neg (by rw [hy]; decide), if_neg (by rw [ht]; decide)]
    rfl
  · have ht : isT 2 [10] s10 = true := by simpa using ht
    refine (rzlines_spec h15).mono ?_
    rintro _ w20 ⟨rfl, o20, h20⟩
    have hll := linesF_le s10
    refine .inl ⟨rfl, ⟨ks ++ [z], _, X13, linesF s10, nb15.on o20, res15.mod o20 (by omega), h20, (linesF_suf _).trans (hq2.trans hsf9), by simp only [List.length_append, List.length_cons, List.length_nil]; omega, ?_⟩, by rw [h20.len, h5.len]; omega⟩
    rw [hm, Rs.ok_and]
    dsimp only
    rw [if_neg (by rw [hy]; decide), if_pos ht]
    rfl
theorem rzsome_of {L : Nat} (hc : RCmdS L) {g : Nat} {s : Ts} (h : Rz w g s) (hb : TB s) : Calls Tryz.prog fn_ref09_parser_list #[.pointer (some ⟨g, 0, none⟩), .int .i64 (31 - (L : Int)), .bool false] w (RzP w g (someF (lvS L).1 s)) := by
  rw [← listE_false]
  exact rzlist_of hc h hb false
theorem rzbody_of {L : Nat} (hL : L < 100) (hc : RCmdS L) {g : Nat} {s : Ts} (h : Rz w g s) (hb : TB s) : Calls Tryz.prog fn_ref09_parser_body #[.pointer (some ⟨g, 0, none⟩), .int .i64 (31 - ((L + 1 : Nat) : Int))] w (RzP w g (bodyF (lvS L).1 s)) := by
  refine ref09_parser_body_calls _ _ _ _ ?_
  have hg := h.lt
  unfold vc_ref09_parser_body
  rw [dep_up hL]
  have hlv : bodyF (lvS L).1 s = if isT 0 tDo s = true then (someF (lvS L).1 s.tail).and fun x => tookF 0 tDone x else .bad 100 := rfl
  rw [hlv]
  clear hlv
  refine allocK fun w1 r1 s1 z1 => (rztake_spec (h.still s1) 0 tDo).mono ?_
  rintro _ w2 ⟨rfl, o2, h2⟩
  have hz2 := o2.size
  have res2 : Row w2 w.heap.size 31 ⟨zcell⟩ := r1.mod o2 (by omega)
  have o02 := s1.only.tr o2
  refine .inl ⟨_, rfl, bsel_of (fun hx => ?_) (fun hx => ?_)⟩
  · have hx : isT 0 tDo s = false := by simpa using hx
    rw [if_neg (by rw [hx]; decide)]
    exact tEnd_bad rfl (by decide) hg o02 res2
  have hx : isT 0 tDo s = true := by simpa using hx
  rw [if_pos hx] at h2 ⊢
  refine (rzsome_of hc h2 (hb.suf (tail_suf s))).mono ?_
  rintro e4 w4 hp
  obtain ⟨o4, x, pw, cw, pa, ca, pr, cr, po, co, pk, ck, er, rfl, hnd, hm⟩ := hp.res
  have hz4 := o4.size
  generalize htg : ((someF (lvS L).1 s.tail).and fun x => tookF 0 tDone x) = target
  refine .inl ⟨_, _, _, _, _, _, _, _, _, _, _, _, _, _, _, _, _, _, _, rfl, boxK rfl (by simp [Value.oneCell']) fun w6 r6 s6 z6 => ?_⟩
  have hnd6 := (hnd.still s6).mono (G := fun k => w.heap.size + 1 ≤ k ∧ k < w4.heap.size) fun k hk => ⟨by have := hk.1; omega, hk.2⟩
  have res6 := (res2.mod o4 (by omega)).still s6
  have o6 : Only g w w6 := (o02.tr o4).tr s6.only
  refine ⟨fun w11 => Only g w6 w11 ∧ Res g target x 0 w11, ⟨fun b w8 => Only g w6 w8 ∧ ((b = true ∧ (er = 0 ∧ target = .bad 100 ∨ ∃ k : Nat, k ≠ 0 ∧ er = (k : Int) ∧ target = .bad k)) ∨ (b = false ∧ Res g target x 0 w8)), bsel_of (fun h0 => ?_) (fun h0 => ?_), ?_⟩, ?_⟩
  · have h0 : er ≠ 0 := nt h0
    rcases hm with ⟨e, _⟩ | ⟨k2, hk2, e, hr⟩
    · exact absurd e h0
    rw [hr] at htg
    exact ⟨(Still.refl _).only, .inl ⟨rfl, .inr ⟨k2, hk2, e, htg.symm⟩⟩⟩
  · have h0 : er = 0 := nf h0
    rcases hm.still s6 with ⟨_, s9, h9, hr⟩ | ⟨k2, hk2, e, hr⟩
    rotate_left
    · omega
    rw [hr] at htg
    have htg : tookF 0 tDone (x, s9) = target := htg
    refine (rztake_spec h9 0 tDone).mono ?_
    rintro _ w7 ⟨rfl, o7, h7⟩
    refine .inl ⟨_, rfl, o7, ?_⟩
    unfold tookF at htg
    cases hy : isT 0 tDone s9 with
    | true =>
      rw [if_pos hy] at htg h7
      exact .inr ⟨rfl, .inl ⟨rfl, _, h7, htg.symm⟩⟩
    | false =>
      rw [if_neg (by dsimp only; rw [hy]; decide)] at htg
      exact .inl ⟨rfl, .inl ⟨h0, htg.symm⟩⟩
  · rintro b _ w8 ⟨o8, hb8⟩
    refine bsel_of (fun hbt => ?_) (fun hbf => ?_)
    rotate_left
    · rcases hb8 with ⟨e, _⟩ | ⟨_, hr⟩
      · rw [hbf] at e
        cases e
      · exact ⟨o8, hr⟩
    rcases hb8 with ⟨_, ht⟩ | ⟨e, _⟩
    rotate_left
    · rw [hbt] at e
      cases e
    refine (rzor_spec er).mono ?_
    rintro _ w9 ⟨rfl, rfl⟩
    refine .inl ⟨_, rfl, ?_⟩
    rcases ht with ⟨e, ht⟩ | ⟨k, hk, e, ht⟩
    · rw [if_pos e]
      exact tEnd_bad ht (by decide) hg (o6.tr o8) (res6.mod o8 (by omega))
    · rw [if_neg (by omega), e]
      exact tEnd_bad ht hk hg (o6.tr o8) (res6.mod o8 (by omega))
  · rintro _ w11 ⟨o11, hr11⟩
    have hz11 := o11.size
    exact nEndR (r6.mod o11 (by omega)) ((hnd6.mod o11 (fun k hk (e : k = g) => by have := hk.1; omega)).mono fun k hk => ⟨hk.1, by have := hk.2; omega⟩) hg (o6.tr o11) (res6.mod o11 (by omega)) (Nat.lt_succ_self _) hr11
theorem kidsEnd {w0 : World} {g gn b : Nat} {ks : List Nd} {xs : List Value} {er kd : Int} {nm : Txt} {target : Rs (Nd × Ts)} (hgn : Row w gn 31 ⟨ncell (.mk kd false nm [] [] [] [] []) (.slice none 0 0) (.slice none 0 0) (.slice none 0 0) (.slice none 0 0) (.slice none 0 0)⟩) (hb : Row w b 31 ⟨xs⟩) (hc : ndE.Cs w (fun k => w0.heap.size < k ∧ k < w.heap.size ∧ k ≠ gn) ks xs) (h1 : w0.heap.size < gn) (h2 : w0.heap.size < b) (hne : b ≠ gn) (hg : g < w0.heap.size) (ho : Only g w0 w) (hres : Row w w0.heap.size 31 ⟨zcell⟩) (hf : Res g target (.mk kd false nm [] [] [] [] ks) er w) :
    stCells (Addr.mk gn 7 none) (fun w13 => NExitT gn w0.heap.size er w13 (RzP w0 g target)) 0 [.slice (some (Addr.mk b 0 none)) ks.length ks.length] w := by
  have hl := hgn.lt
  refine stK hgn (by simp) (by simp [Value.oneCell']) fun w' r' m' z' => ?_
  have r' : Row w' gn 31 ⟨ncell (.mk kd false nm [] [] [] [] ks) (.slice none 0 0) (.slice none 0 0) (.slice none 0 0) (.slice none 0 0) (.slice (some ⟨b, 0, none⟩) ks.length ks.length)⟩ := r'
  have hlb := hb.lt
  have hn : NdE w' (fun k => w0.heap.size + 1 ≤ k ∧ k < w'.heap.size) (.mk kd false nm [] [] [] [] ks) (ncell (.mk kd false nm [] [] [] [] ks) (.slice none 0 0) (.slice none 0 0) (.slice none 0 0) (.slice none 0 0) (.slice (some ⟨b, 0, none⟩) ks.length ks.length)) :=
    NdE.of (x := .mk kd false nm [] [] [] [] ks) (Enc.At.nil _ _ _ none 0) (Enc.At.nil _ _ _ none 0) (Enc.At.nil _ _ _ none 0) (Enc.At.nil _ _ _ none 0) (Enc.At.row (l := ks) (c := ks.length) (hb.mod m' hne) (hc.turn (fun k hk => ⟨hk.1, by have := hk.2.1; omega⟩) fun a v ⟨k, hk, ea⟩ hcell => mod_cell m' (by rw [ea]; exact hk.2.2) hcell) (by show w0.heap.size + 1 ≤ b ∧ b < w'.heap.size; omega) (Nat.le_refl _))
  exact nEndR r' hn hg (Mod.trans ho m' (fun _ h => h) (fun i hi e => by omega)) (hres.mod m' (by omega)) (Nat.lt_succ_self _) (hf.mod m' fun k hk e => by omega)
theorem Rz.step3 {g : Nat} {x y z : Nat × Txt} {r : Ts} (h : Rz w g (x :: y :: z :: r)) {K : World → Prop} (hK : ∀ w', Only g w w' → Rz w' g r → K w') : ∃ v : Int, w.cell? (Addr.mk g 1 none) = some (.int .i64 v) ∧ stCells (Addr.mk g 1 none) (fun w2 => K w2) 0 [(.int .i64 (IntKind.i64.wrap (v + 3)))] w := by
  obtain ⟨all, a, c, n, he, hn, hl, hr, ht⟩ := h
  have hlen := congrArg List.length he
  rw [List.length_drop] at hlen
  simp only [List.length_cons] at hlen
  refine ⟨(n : Int), hr.lget rfl, stK hr (by simp) (by simp [Value.oneCell']) fun w' r' m' z' => hK w' m' ?_⟩
  have e1 : IntKind.i64.wrap ((n : Int) + 3) = ((n + 3 : Nat) : Int) := by rw [wrap_i64 (by omega) (by omega)]; omega
  rw [e1] at r'
  refine ⟨all, a, c, n + 3, ?_, by omega, hl, r', ht.turn (fun _ h => h) fun a v ⟨k, hk, ea⟩ hcell => mod_cell m' (by rw [ea]; show ¬ k = g; have : k < g := hk; omega) hcell⟩
  rw [← List.drop_drop, ← he]
  rfl
theorem rzdefine_of {L : Nat} (hL : L < 100) (hc : RCmdS L) {g : Nat} {x y z : Nat × Txt} {r : Ts} (h : Rz w g (x :: y :: z :: r)) (hb : TB (x :: y :: z :: r)) : Calls Tryz.prog fn_ref09_parser_define #[.pointer (some ⟨g, 0, none⟩), .int .i64 (31 - ((L + 1 : Nat) : Int))] w (RzP w g (defF (lvS L).1 (x :: y :: z :: r))) := by
  refine ref09_parser_define_calls _ _ _ _ ?_
  have hg := h.lt
  unfold vc_ref09_parser_define
  rw [dep_up hL]
  have hlv : defF (lvS L).1 (x :: y :: z :: r) = ((lvS L).1 (linesF r)).and fun u => if 4 ≤ u.1.k ∧ u.1.k ≤ 9 then .ok (Nd.mk 11 false x.2 [] [] [] [] [u.1], u.2) else .bad 100 := rfl
  rw [hlv]
  clear hlv
  generalize htg : (((lvS L).1 (linesF r)).and fun u => if 4 ≤ u.1.k ∧ u.1.k ≤ 9 then .ok (Nd.mk 11 false x.2 [] [] [] [] [u.1], u.2) else .bad 100) = target
  obtain ⟨LL, cc, n, bb, hn, hl, _, hs⟩ := h.at
  refine allocK fun w1 r1 s1 z1 => ⟨fun wq => Still w wq, s1.trans (drew_still w1), some bb, LL, cc, fun wq hq => (hs wq hq).1, n, fun wq hq => (hs wq hq).2.1, by omega, by omega, x.2, fun wq hq => (hs wq hq).2.2.2.2, allocK fun w2 r2 s2 z2 => ⟨(s1.trans (drew_still w1)).trans s2, stK r2 (by simp) (by simp [Value.oneCell']) fun w3 r3 m3 z3 => ?_⟩⟩
  have zd : w1.drew.heap.size = w1.heap.size := rfl
  have r3 : Row w3 w1.drew.heap.size 31 ⟨ncell (.mk 11 false x.2 [] [] [] [] []) (.slice none 0 0) (.slice none 0 0) (.slice none 0 0) (.slice none 0 0) (.slice none 0 0)⟩ := r3
  have s03 : Still w w3 := Mod.trans ((s1.trans (drew_still w1)).trans s2) m3 (fun _ h => h) (fun i hi e => by omega)
  have res3 : Row w3 w.heap.size 31 ⟨zcell⟩ := ((r1.still (drew_still w1)).still s2).mod m3 (by omega)
  refine (h.still s03).step3 fun w4 o4 h4 => (rzlines_spec h4).mono ?_
  rintro _ w5 ⟨rfl, o5, h5⟩
  refine .inl ⟨rfl, (hc _ _ _ h5 (hb.tail.tail.tail.suf (linesF_suf r))).mono ?_⟩
  rintro e6 w6 hp
  obtain ⟨o6, u, pw, cw, pa, ca, pr, cr, po, co, pk, ck, er, rfl, hnd, hm⟩ := hp.res
  have hz4 := o4.size
  have hz5 := o5.size
  have hz6 := o6.size
  refine .inl ⟨_, _, _, _, _, _, _, _, _, _, _, _, _, _, _, _, _, _, _, rfl, boxK rfl (by simp [Value.oneCell']) fun w8 r8 s8 z8 => ?_⟩
  have o38 : Only g w3 w8 := ((o4.tr o5).tr o6).tr s8.only
  have r38 := r3.mod o38 (by omega)
  have res8 := res3.mod o38 (by omega)
  have o08 := s03.only.tr o38
  refine ⟨fun ex w10 => w10 = w8 ∧ Res g target (.mk 11 false x.2 [] [] [] [] [u]) ex w8, ⟨fun b w9 => w9 = w8 ∧ ((b = true ∧ target = .bad 100) ∨ (b = false ∧ Res g target (.mk 11 false x.2 [] [] [] [] [u]) er w8)), bsel_of (fun h0 => ?_) (fun h0 => ⟨rfl, .inr ⟨rfl, ?_⟩⟩), ?_⟩, ?_⟩
  · have h0 := of_decide_eq_true h0
    rcases hm.still s8 with ⟨_, s9, h9, hr⟩ | ⟨k, hk, e, hr⟩
    rotate_left
    · omega
    rw [hr, Rs.ok_and] at htg
    dsimp only at htg
    refine ⟨_, r8.lget rfl, bsel_of (fun h4 => ⟨rfl, .inl ⟨rfl, ?_⟩⟩) (fun h4 => ⟨_, r8.lget rfl, rfl, ?_⟩)⟩
    · rw [if_neg (fun hk => by have := of_decide_eq_true h4; omega)] at htg
      exact htg.symm
    · have h4 := of_decide_eq_false h4
      by_cases h9k : 9 < u.k
      · rw [if_neg (fun hk => by omega)] at htg
        exact .inl ⟨decide_eq_true h9k, htg.symm⟩
      · rw [if_pos ⟨by omega, by omega⟩] at htg
        exact .inr ⟨decide_eq_false h9k, .inl ⟨h0, s9, h9, htg.symm⟩⟩
  · have h0 := of_decide_eq_false h0
    rcases hm with ⟨e, _⟩ | ⟨k, hk, e, hr⟩
    · exact absurd e h0
    rw [hr] at htg
    exact .inr ⟨k, hk, e, htg.symm⟩
  · rintro b _ w9 ⟨rfl, hb9⟩
    refine bsel_of (fun hbt => ?_) (fun hbf => ?_)
    · rcases hb9 with ⟨_, ht⟩ | ⟨e, _⟩
      · exact ⟨rfl, .inr ⟨100, by decide, rfl, ht⟩⟩
      · rw [hbt] at e
        cases e
    · rcases hb9 with ⟨e, _⟩ | ⟨_, hr⟩
      · rw [hbf] at e
        cases e
      · exact ⟨rfl, hr⟩
  rintro ex _ w10 ⟨rfl, hr10⟩
  refine ⟨_, _, _, _, _, _, _, _, _, _, _, _, _, _, _, _, _, _, r8.lget rfl, r8.lget rfl, r8.lget rfl, r8.lget rfl, r8.lget rfl, r8.lget rfl, r8.lget rfl, r8.lget rfl, allocK fun w11 r11 s11 z11 => ?_⟩
  have ndu : NdE w11 (fun k => w.heap.size < k ∧ k < w11.heap.size ∧ k ≠ w1.drew.heap.size) u _ := ((hnd.still s8).still s11).mono fun k hk => by
    have h1 : w5.heap.size ≤ k := hk.1
    have h2 : k < w6.heap.size := hk.2
    exact ⟨by omega, by omega, by omega⟩
  exact kidsEnd (ks := [u]) (r38.still s11) r11 (cs_one ndu) (by omega) (by omega) (by omega) hg (o08.tr s11.only) (res8.still s11) (hr10.still s11)
def RzC (w : World) (g : Nat) (r : Rs (Nd × Ts)) (e : Ending) (w' : World) : Prop := RzP w g r e w' ∧ ∃ (cs : List Value) (er : Int), e = .returned (.tuple #[.agg ⟨cs⟩, .int .i64 er]) ∧ cs[5]? = some (.slice none 0 0)
theorem tEnd_of5 {w0 : World} {g : Nat} {x : Nd} {vw va vo vk : Value} {er : Int} {target : Rs (Nd × Ts)} (hf : Res g target x er w) (hg : g < w0.heap.size) (ho : Only g w0 w) (hres : Row w w0.heap.size 31 ⟨zcell⟩) (hn : NdE w (fun k => w0.heap.size < k ∧ k < w.heap.size) x (ncell x vw va (.slice none 0 0) vo vk)) :
    stCells (Addr.mk w0.heap.size 0 none) (TEnd w0.heap.size er (RzC w0 g target)) 0 (ncell x vw va (.slice none 0 0) vo vk) w := by
  obtain ⟨vw', va', vr', vo', vk', he, f1, f2, f3, f4, f5⟩ := hn.out
  have e1 : vw = vw' := Option.some.inj (congrArg (fun l : List Value => l[3]?) he)
  have e2 : va = va' := Option.some.inj (congrArg (fun l : List Value => l[4]?) he)
  have e4 : vo = vo' := Option.some.inj (congrArg (fun l : List Value => l[6]?) he)
  have e5 : vk = vk' := Option.some.inj (congrArg (fun l : List Value => l[7]?) he)
  subst e1 e2 e4 e5
  obtain ⟨pw, cw, rfl⟩ := f1.form
  obtain ⟨pa, ca, rfl⟩ := f2.form
  obtain ⟨po, co, rfl⟩ := f4.form
  obtain ⟨pk, ck, rfl⟩ := f5.form
  refine stK hres (by simp) (by simp [Value.oneCell']) fun w' r' m' z' => ?_
  refine ⟨_, _, _, _, _, _, _, _, _, _, _, _, _, _, _, _, _, _, r'.lget rfl, r'.lget rfl, r'.lget rfl, r'.lget rfl, r'.lget rfl, r'.lget rfl, r'.lget rfl, r'.lget rfl, ?_⟩
  refine ⟨(hf.mod m' fun k hk e => by omega).rz (Mod.trans ho m' (fun _ h => h) (fun i hi e => by omega)) ((hn.mod m' fun k hk e => by omega).mono fun k hk => ⟨by omega, by omega⟩), _, _, rfl, rfl⟩
theorem tEnd_bad5 {w0 : World} {g k : Nat} {target : Rs (Nd × Ts)} (ht : target = .bad k) (hk : k ≠ 0) (hg : g < w0.heap.size) (ho : Only g w0 w) (hres : Row w w0.heap.size 31 ⟨zcell⟩) :
    stCells (Addr.mk w0.heap.size 0 none) (TEnd w0.heap.size (k : Int) (RzC w0 g target)) 0 zcell w := tEnd_of5 (x := nd0) (.inr ⟨k, hk, rfl, ht⟩) hg ho hres (zero_nde _ _)
theorem nEndB5 {w0 : World} {g gn B : Nat} {X : Nat → Prop} {x : Nd} {vw va vo vk : Value} {er : Int} {target : Rs (Nd × Ts)} (h : NB w0 w g gn B X x vw va (.slice none 0 0) vo vk) (hres : Row w w0.heap.size 31 ⟨zcell⟩) (hB : w0.heap.size < B) (hf : Res g target x er w) : NExitT gn w0.heap.size er w (RzC w0 g target) := by
  have hn := h.nde
  have hg := h.hg
  have hr := h.row
  have hfin := tEnd_of5 hf hg h.only hres (hn.mono fun k hk => ⟨by omega, hk.2⟩)
  obtain ⟨pw, cw, rfl⟩ := h.ow.form
  obtain ⟨pa, ca, rfl⟩ := h.oa.form
  obtain ⟨po, co, rfl⟩ := h.oo.form
  obtain ⟨pk, ck, rfl⟩ := h.ok.form
  exact ⟨_, _, _, _, _, _, _, _, _, _, _, _, _, _, _, _, _, _, hr.lget rfl, hr.lget rfl, hr.lget rfl, hr.lget rfl, hr.lget rfl, hr.lget rfl, hr.lget rfl, hr.lget rfl, hfin⟩
theorem kidsEnd5 {w0 : World} {g gn b : Nat} {ks : List Nd} {xs : List Value} {er kd : Int} {nm : Txt} {target : Rs (Nd × Ts)} (hgn : Row w gn 31 ⟨ncell (.mk kd false nm [] [] [] [] []) (.slice none 0 0) (.slice none 0 0) (.slice none 0 0) (.slice none 0 0) (.slice none 0 0)⟩) (hb : Row w b 31 ⟨xs⟩) (hc : ndE.Cs w (fun k => w0.heap.size < k ∧ k < w.heap.size ∧ k ≠ gn) ks xs) (h1 : w0.heap.size < gn) (h2 : w0.heap.size < b) (hne : b ≠ gn) (hg : g < w0.heap.size) (ho : Only g w0 w) (hres : Row w w0.heap.size 31 ⟨zcell⟩) (hf : Res g target (.mk kd false nm [] [] [] [] ks) er w) :
    stCells (Addr.mk gn 7 none) (fun w13 => NExitT gn w0.heap.size er w13 (RzC w0 g target)) 0 [.slice (some (Addr.mk b 0 none)) ks.length ks.length] w := by
  have hl := hgn.lt
  refine stK hgn (by simp) (by simp [Value.oneCell']) fun w' r' m' z' => ?_
  have r' : Row w' gn 31 ⟨ncell (.mk kd false nm [] [] [] [] ks) (.slice none 0 0) (.slice none 0 0) (.slice none 0 0) (.slice none 0 0) (.slice (some ⟨b, 0, none⟩) ks.length ks.length)⟩ := r'
  have hlb := hb.lt
  have hn : NdE w' (fun k => w0.heap.size + 1 ≤ k ∧ k < w'.heap.size) (.mk kd false nm [] [] [] [] ks) (ncell (.mk kd false nm [] [] [] [] ks) (.slice none 0 0) (.slice none 0 0) (.slice none 0 0) (.slice none 0 0) (.slice (some ⟨b, 0, none⟩) ks.length ks.length)) :=
    NdE.of (x := .mk kd false nm [] [] [] [] ks) (Enc.At.nil _ _ _ none 0) (Enc.At.nil _ _ _ none 0) (Enc.At.nil _ _ _ none 0) (Enc.At.nil _ _ _ none 0) (Enc.At.row (l := ks) (c := ks.length) (hb.mod m' hne) (hc.turn (fun k hk => ⟨hk.1, by have := hk.2.1; omega⟩) fun a v ⟨k, hk, ea⟩ hcell => mod_cell m' (by rw [ea]; exact hk.2.2) hcell) (by show w0.heap.size + 1 ≤ b ∧ b < w'.heap.size; omega) (Nat.le_refl _))
  have hfin := tEnd_of5 (hf.mod m' fun k hk e => by omega) hg (Mod.trans ho m' (fun _ h => h) (fun i hi e => by omega)) (hres.mod m' (by omega)) (hn.mono fun k hk => ⟨by omega, hk.2⟩)
  exact ⟨_, _, _, _, _, _, _, _, _, _, _, _, _, _, _, _, _, _, r'.lget rfl, r'.lget rfl, r'.lget rfl, r'.lget rfl, r'.lget rfl, r'.lget rfl, r'.lget rfl, r'.lget rfl, hfin⟩
theorem rzinside5_of {L : Nat} (hL : L < 100) (hc : RCmdS L) {g : Nat} {s : Ts} (h : Rz w g s) (hb : TB s) (kind : Int) (k : Nat) (t : Txt) : Calls Tryz.prog fn_ref09_parser_inside #[.pointer (some ⟨g, 0, none⟩), .int .i64 kind, .int .i64 (31 - ((L + 1 : Nat) : Int)), .int .i64 (k : Int), .string (S t)] w (RzC w g (insideF (lvS L).1 kind k t s)) := by
  refine ref09_parser_inside_calls _ _ _ _ _ _ _ ?_
  have hg := h.lt
  unfold vc_ref09_parser_inside
  rw [dep_up hL]
  refine allocK fun w1 r1 s1 z1 => (rzsome_of hc (h.still s1) hb).mono ?_
  rintro e2 w2 hp
  obtain ⟨o2, x, pw, cw, pa, ca, pr, cr, po, co, pk, ck, er, rfl, hnd, hm⟩ := hp.res
  have hz2 := o2.size
  have res2 : Row w2 w.heap.size 31 ⟨zcell⟩ := r1.mod o2 (by omega)
  have hlv : insideF (lvS L).1 kind k t s = (someF (lvS L).1 s).and fun x => tookF k t (.mk kind false [] [] [] [] [] [x.1], x.2) := rfl
  rw [hlv]
  clear hlv
  generalize htg : ((someF (lvS L).1 s).and fun x => tookF k t (.mk kind false [] [] [] [] [] [x.1], x.2)) = target
  refine .inl ⟨_, _, _, _, _, _, _, _, _, _, _, _, _, _, _, _, _, _, _, rfl, boxK rfl (by simp [Value.oneCell']) fun w4 r4 s4 z4 => ?_⟩
  have hnd4 := (hnd.still s4).mono (G := fun k => w.heap.size + 1 ≤ k ∧ k < w2.heap.size) fun k hk => ⟨by have := hk.1; omega, hk.2⟩
  have res4 := res2.still s4
  have o4 : Only g w w4 := (s1.only.tr o2).tr s4.only
  refine ⟨fun ex w7 => Only g w4 w7 ∧ Res g target (.mk kind false [] [] [] [] [] [x]) ex w7, ⟨fun b w6 => Only g w4 w6 ∧ ((b = true ∧ target = .bad 100) ∨ (b = false ∧ Res g target (.mk kind false [] [] [] [] [] [x]) er w6)), bsel_of (fun h0 => ?_) (fun h0 => ?_), ?_⟩, ?_⟩
  · have h0 := of_decide_eq_true h0
    rcases hm.still s4 with ⟨_, s9, h9, hr⟩ | ⟨k2, hk2, e, hr⟩
    rotate_left
    · omega
    rw [hr] at htg
    have htg : tookF k t (.mk kind false [] [] [] [] [] [x], s9) = target := htg
    refine (rztake_spec h9 k t).mono ?_
    rintro _ w5 ⟨rfl, o5, h5⟩
    refine .inl ⟨_, rfl, o5, ?_⟩
    unfold tookF at htg
    cases hx : isT k t s9 with
    | true =>
      rw [if_pos hx] at htg h5
      exact .inr ⟨rfl, .inl ⟨h0, _, h5, htg.symm⟩⟩
    | false =>
      rw [if_neg (by dsimp only; rw [hx]; decide)] at htg
      exact .inl ⟨rfl, htg.symm⟩
  · have h0 := of_decide_eq_false h0
    rcases hm.still s4 with ⟨e, _⟩ | ⟨k2, hk2, e, hr⟩
    · exact absurd e h0
    rw [hr] at htg
    exact ⟨(Still.refl _).only, .inr ⟨rfl, .inr ⟨k2, hk2, e, htg.symm⟩⟩⟩
  · rintro b _ w6 ⟨o6, hb6⟩
    refine bsel_of (fun hbt => ?_) (fun hbf => ?_)
    · rcases hb6 with ⟨_, ht⟩ | ⟨e, _⟩
      · exact ⟨o6, .inr ⟨100, by decide, rfl, ht⟩⟩
      · rw [hbt] at e
        cases e
    · rcases hb6 with ⟨e, _⟩ | ⟨_, hr⟩
      · rw [hbf] at e
        cases e
      · exact ⟨o6, hr⟩
  · rintro ex _ w7 ⟨o7, hr7⟩
    have r7 := r4.mod o7 (by omega)
    have hz7 := o7.size
    refine ⟨_, _, _, _, _, _, _, _, _, _, _, _, _, _, _, _, _, _, r7.lget rfl, r7.lget rfl, r7.lget rfl, r7.lget rfl, r7.lget rfl, r7.lget rfl, r7.lget rfl, r7.lget rfl, allocK fun w8 r8 s8 z8 => ?_⟩
    have hn8 : NdE w8 (fun k => w.heap.size < k ∧ k < w8.heap.size) x _ := ((hnd4.mod o7 (fun k hk (e : k = g) => by have := hk.1; omega)).still s8).mono fun k hk => ⟨by have := hk.1; omega, by have := hk.2; omega⟩
    have hx8 : NdE w8 (fun k => w.heap.size < k ∧ k < w8.heap.size) (.mk kind false [] [] [] [] [] [x]) (ncell (.mk kind false [] [] [] [] [] [x]) (.slice none 0 0) (.slice none 0 0) (.slice none 0 0) (.slice none 0 0) (.slice (some ⟨w7.heap.size, 0, none⟩) 1 1)) := NdE.of (x := .mk kind false [] [] [] [] [] [x]) (Enc.At.nil _ _ _ none 0) (Enc.At.nil _ _ _ none 0) (Enc.At.nil _ _ _ none 0) (Enc.At.nil _ _ _ none 0) (Enc.At.row (l := [x]) (c := 1) r8 (cs_one hn8) (by show w.heap.size < w7.heap.size ∧ w7.heap.size < w8.heap.size; omega) (Nat.le_refl 1))
    have hfin := tEnd_of5 (hr7.still s8) hg ((o4.tr o7).tr s8.only) ((res4.mod o7 (by omega)).still s8) hx8
    exact hfin
theorem rzbranch5_of {L : Nat} (hL : L < 100) (hc : RCmdS L) (hbr : RBrS L) {g : Nat} {s : Ts} (h : Rz w g s) (hb : TB s) : Calls Tryz.prog fn_ref09_parser_branch #[.pointer (some ⟨g, 0, none⟩), .int .i64 (31 - ((L + 1 : Nat) : Int))] w (RzC w g (branchF (lvS L).1 (lvS L).2 s)) := by
  refine ref09_parser_branch_calls _ _ _ _ ?_
  have hg := h.lt
  have he := (lvS_eats L).1
  have hsf := (lvS_suf L).1
  have hse := someF_less he
  have hss := someF_suf hsf
  unfold vc_ref09_parser_branch
  rw [dep_up hL]
  have hlv : branchF (lvS L).1 (lvS L).2 s = (someF (lvS L).1 s).and fun c => (tookF 0 tThen c).and fun c => (someF (lvS L).1 c.2).and fun t =>
    if isT 0 tElif t.2 = true then ((lvS L).2 t.2.tail).and fun x => .ok (Nd.mk 6 false [] [] [] [] [] [c.1, t.1, listN [x.1]], x.2)
    else if isT 0 tElse t.2 = true then (someF (lvS L).1 t.2.tail).and fun x => .ok (Nd.mk 6 false [] [] [] [] [] [c.1, t.1, x.1], x.2)
    else .ok (Nd.mk 6 false [] [] [] [] [] [c.1, t.1], t.2) := rfl
  rw [hlv]
  clear hlv
  refine allocK fun w1 r1 s1 z1 => (rzsome_of hc (h.still s1) hb).mono ?_
  rintro e2 w2 hp
  obtain ⟨o2, x, pw, cw, pa, ca, pr, cr, po, co, pk, ck, er, rfl, hnd, hm⟩ := hp.res
  have hz2 := o2.size
  have res2 : Row w2 w.heap.size 31 ⟨zcell⟩ := r1.mod o2 (by omega)
  generalize htg : ((someF (lvS L).1 s).and fun c => (tookF 0 tThen c).and fun c => (someF (lvS L).1 c.2).and fun t =>
    if isT 0 tElif t.2 = true then ((lvS L).2 t.2.tail).and fun x => .ok (Nd.mk 6 false [] [] [] [] [] [c.1, t.1, listN [x.1]], x.2)
    else if isT 0 tElse t.2 = true then (someF (lvS L).1 t.2.tail).and fun x => .ok (Nd.mk 6 false [] [] [] [] [] [c.1, t.1, x.1], x.2)
    else .ok (Nd.mk 6 false [] [] [] [] [] [c.1, t.1], t.2)) = target
  refine .inl ⟨_, _, _, _, _, _, _, _, _, _, _, _, _, _, _, _, _, _, _, rfl, boxK rfl (by simp [Value.oneCell']) fun w4 r4 s4 z4 => ?_⟩
  have hnd4 := (hnd.still s4).mono (G := fun k => w.heap.size + 1 ≤ k ∧ k < w2.heap.size) fun k hk => ⟨by have := hk.1; omega, hk.2⟩
  have res4 := res2.still s4
  have o4 : Only g w w4 := (s1.only.tr o2).tr s4.only
  refine ⟨fun w9 => Only g w4 w9 ∧ ∃ s9, Rz w9 g s9 ∧ s9 <:+ s ∧ target = (someF (lvS L).1 s9).and fun t =>
    if isT 0 tElif t.2 = true then ((lvS L).2 t.2.tail).and fun y => .ok (Nd.mk 6 false [] [] [] [] [] [x, t.1, listN [y.1]], y.2)
    else if isT 0 tElse t.2 = true then (someF (lvS L).1 t.2.tail).and fun y => .ok (Nd.mk 6 false [] [] [] [] [] [x, t.1, y.1], y.2)
    else .ok (Nd.mk 6 false [] [] [] [] [] [x, t.1], t.2), ⟨fun b w8 => Only g w4 w8 ∧ ((b = true ∧ (er = 0 ∧ target = .bad 100 ∨ ∃ k : Nat, k ≠ 0 ∧ er = (k : Int) ∧ target = .bad k)) ∨ (b = false ∧ ∃ s9, Rz w8 g s9 ∧ s9 <:+ s ∧ target = (someF (lvS L).1 s9).and fun t =>
    if isT 0 tElif t.2 = true then ((lvS L).2 t.2.tail).and fun y => .ok (Nd.mk 6 false [] [] [] [] [] [x, t.1, listN [y.1]], y.2)
    else if isT 0 tElse t.2 = true then (someF (lvS L).1 t.2.tail).and fun y => .ok (Nd.mk 6 false [] [] [] [] [] [x, t.1, y.1], y.2)
    else .ok (Nd.mk 6 false [] [] [] [] [] [x, t.1], t.2))), bsel_of (fun h0 => ?_) (fun h0 => ?_), ?_⟩, ?_⟩
  · have h0 : er ≠ 0 := nt h0
    rcases hm with ⟨e, _⟩ | ⟨k2, hk2, e, hr⟩
    · exact absurd e h0
    rw [hr] at htg
    exact ⟨(Still.refl _).only, .inl ⟨rfl, .inr ⟨k2, hk2, e, htg.symm⟩⟩⟩
  · have h0 : er = 0 := nf h0
    rcases hm.still s4 with ⟨_, s9, h9, hr⟩ | ⟨k2, hk2, e, hr⟩
    rotate_left
    · omega
    have hq2 := hss _ _ hr
    dsimp only at hq2
    rw [hr, Rs.ok_and] at htg
    refine (rztake_spec h9 0 tThen).mono ?_
    rintro _ w7 ⟨rfl, o7, h7⟩
    refine .inl ⟨_, rfl, o7, ?_⟩
    unfold tookF at htg
    cases hy : isT 0 tThen s9 with
    | true =>
      rw [if_pos hy, Rs.ok_and] at htg
      rw [if_pos hy] at h7
      exact .inr ⟨rfl, s9.tail, h7, (tail_suf _).trans hq2, htg.symm⟩
    | false =>
      rw [if_neg (by dsimp only; rw [hy]; decide)] at htg
      exact .inl ⟨rfl, .inl ⟨h0, htg.symm⟩⟩
  · rintro b _ w8 ⟨o8, hb8⟩
    refine bsel_of (fun hbt => ?_) (fun hbf => ?_)
    rotate_left
    · rcases hb8 with ⟨e, _⟩ | ⟨_, hr⟩
      · rw [hbf] at e
        cases e
      · exact ⟨o8, hr⟩
    rcases hb8 with ⟨_, ht⟩ | ⟨e, _⟩
    rotate_left
    · rw [hbt] at e
      cases e
    refine (rzor_spec er).mono ?_
    rintro _ w9 ⟨rfl, rfl⟩
    refine .inl ⟨_, rfl, ?_⟩
    rcases ht with ⟨e, ht⟩ | ⟨k, hk, e, ht⟩
    · rw [if_pos e]
      exact tEnd_bad5 ht (by decide) hg (o4.tr o8) (res4.mod o8 (by omega))
    · rw [if_neg (by omega), e]
      exact tEnd_bad5 ht hk hg (o4.tr o8) (res4.mod o8 (by omega))
  clear htg hm
  rintro _ w9 ⟨o9, s9, h9, hs9, htg⟩
  have hz9 := o9.size
  have r9 := r4.mod o9 (by omega)
  have nd9 := (hnd4.mod o9 (fun k hk (e : k = g) => by have := hk.1; omega))
  have res9 := res4.mod o9 (by omega)
  have o09 := o4.tr o9
  have hb9 := hb.suf hs9
  refine (rzsome_of hc h9 hb9).mono ?_
  rintro e10 w10 hp
  obtain ⟨o10, y, pw', cw', pa', ca', pr', cr', po', co', pk', ck', er3, rfl, hnd', hm⟩ := hp.res
  have hz10 := o10.size
  refine .inl ⟨_, _, _, _, _, _, _, _, _, _, _, _, _, _, _, _, _, _, _, rfl, boxK rfl (by simp [Value.oneCell']) fun w12 r12 s12 z12 => ?_⟩
  have r9' := (r9.mod o10 (by omega)).still s12
  refine ⟨_, _, _, _, _, _, _, _, _, _, _, _, _, _, _, _, _, _, r9'.lget rfl, r9'.lget rfl, r9'.lget rfl, r9'.lget rfl, r9'.lget rfl, r9'.lget rfl, r9'.lget rfl, r9'.lget rfl, _, _, _, _, _, _, _, _, _, _, _, _, _, _, _, _, _, _, r12.lget rfl, r12.lget rfl, r12.lget rfl, r12.lget rfl, r12.lget rfl, r12.lget rfl, r12.lget rfl, r12.lget rfl, allocK fun w13 r13 s13 z13 => boxK rfl (by simp [Value.oneCell']) fun w15 r15 s15 z15 => ?_⟩
  have s1015 := (s12.trans s13).trans s15
  have ndx : NdE w15 (fun k => w.heap.size + 1 ≤ k ∧ k < w15.heap.size ∧ k ≠ w13.heap.size ∧ k ≠ w12.heap.size ∧ ¬ False) x _ := ((nd9.mod o10 (fun k hk (e : k = g) => by have := hk.1; omega)).still s1015).mono fun k hk => ⟨hk.1, by have := hk.2; omega, by have := hk.2; omega, by have := hk.2; omega, id⟩
  have ndy : NdE w15 (fun k => w.heap.size + 1 ≤ k ∧ k < w15.heap.size ∧ k ≠ w13.heap.size ∧ k ≠ w12.heap.size ∧ ¬ False) y _ := (hnd'.still s1015).mono fun k hk => ⟨by have := hk.1; omega, by have := hk.2; omega, by have := hk.2; omega, by have := hk.2; omega, id⟩
  have o15 : Only g w w15 := (o09.tr o10).tr s1015.only
  have res15 := (res9.mod o10 (by omega)).still s1015
  have nb15 := NB.mkKs (w0 := w) (g := g) (gn := w13.heap.size) (B := w.heap.size + 1) (x := .mk 6 false [] [] [] [] [] [x, y]) (ks := [x, y]) (Y := fun _ => False) r15 (r13.still s15) (cs_two ndx ndy) o15 hg (by omega) (by omega) (by omega) (by omega) (fun k hk => hk.elim) (show 2 ≤ 1000000 by decide) ⟨rfl, rfl, rfl, rfl, rfl⟩
  have hm15 := hm.still s1015
  have hgn : w.heap.size + 1 ≤ w13.heap.size := by omega
  generalize w13.heap.size = gn at *
  generalize hpk : Value.slice (some ⟨w12.heap.size, 0, none⟩) [x, y].length [x, y].length = vk15 at nb15
  clear r9' r12 s12 s13 s15 r13 r15 ndx ndy hnd hnd' hp
  refine bsel_of (fun hbad => ?_) (fun hok => ?_)
  · have hne : er3 ≠ 0 := nt hbad
    rcases hm15 with ⟨e, _⟩ | ⟨k, hk, e, hr⟩
    · exact absurd e hne
    rw [hr] at htg
    have htg : target = .bad k := htg
    rw [e]
    exact tEnd_bad5 htg hk hg o15 res15
  have he0 : er3 = 0 := nf hok
  rcases hm15 with ⟨_, s10, h15, hr⟩ | ⟨k, hk, e, hr⟩
  rotate_left
  · omega
  rw [hr, Rs.ok_and] at htg
  dsimp only at htg
  have hq2 := hss _ _ hr
  dsimp only at hq2
  have hb10 := hb9.suf hq2
  refine (rzis_spec h15 0 tElif).mono ?_
  rintro _ w17 ⟨rfl, s17⟩
  have nb17 := nb15.still s17
  have res17 := res15.still s17
  have h17 := h15.still s17
  subst hpk
  refine .inl ⟨_, rfl, bsel_of (fun hx => ?_) (fun hx => ?_)⟩
  · rw [if_pos hx] at htg
    refine bsel_of (fun hd => ?_) (fun hd => ?_)
    · have hd := of_decide_eq_true hd
      have hL0 : L = 0 := by omega
      subst hL0
      have htg : target = .bad 2 := htg
      exact tEnd_bad5 htg (by decide) hg nb17.only res17
    have hL0 : L ≠ 0 := by
      rintro rfl
      exact of_decide_eq_false hd (by decide)
    have h17' := h17
    rw [isT_cons hx] at h17'
    refine h17'.step fun w19 o19 h19 => (hbr _ _ _ h19 (hb10.suf (tail_suf _)) hL0).mono ?_
    rintro e20 w20 hp
    obtain ⟨o20, z, pw, cw, pa, ca, pr, cr, po, co, pk, ck, er5, rfl, hnd, hm⟩ := hp.res
    have hz19 := o19.size
    have hz20 := o20.size
    refine .inl ⟨_, _, _, _, _, _, _, _, _, _, _, _, _, _, _, _, _, _, _, rfl, boxK rfl (by simp [Value.oneCell']) fun w22 r22 s22 z22 => ?_⟩
    have o1722 : Only g w17 w22 := (o19.tr o20).tr s22.only
    have nb22 := nb17.on o1722
    refine ⟨_, _, _, nb22.row.lget rfl, _, _, _, _, _, _, _, _, _, _, _, _, _, _, _, _, _, _, r22.lget rfl, r22.lget rfl, r22.lget rfl, r22.lget rfl, r22.lget rfl, r22.lget rfl, r22.lget rfl, r22.lget rfl, allocK fun w23 r23 s23 z23 => ?_⟩
    have hnz : NdE w23 (fun k => w17.heap.size ≤ k ∧ k < w23.heap.size) z _ := ((hnd.still s22).still s23).mono fun k hk => ⟨by have := hk.1; omega, by have := hk.2; omega⟩
    have hnl : NdE w23 (fun k => w17.heap.size ≤ k ∧ k < w23.heap.size) (listN [z]) (ncell (listN [z]) (.slice none 0 0) (.slice none 0 0) (.slice none 0 0) (.slice none 0 0) (.slice (some ⟨w22.heap.size, 0, none⟩) 1 1)) := NdE.of (x := listN [z]) (Enc.At.nil _ _ _ none 0) (Enc.At.nil _ _ _ none 0) (Enc.At.nil _ _ _ none 0) (Enc.At.nil _ _ _ none 0) (Enc.At.row (l := [z]) (c := 1) r23 (cs_one hnz) (by show w17.heap.size ≤ w22.heap.size ∧ w22.heap.size < w23.heap.size; omega) (Nat.le_refl 1))
    refine NB.addK' (y := listN [z]) (cs := ncell (listN [z]) (.slice none 0 0) (.slice none 0 0) (.slice none 0 0) (.slice none 0 0) (.slice (some ⟨w22.heap.size, 0, none⟩) 1 1)) nb17 (o1722.tr s23.only) hnl (show 2 < 1000000 by decide) fun p' c' w26 X26 nb26 m26 => ?_
    have nb26 : NB w w26 g gn (w.heap.size + 1) X26 (.mk 6 false [] [] [] [] [] [x, y, listN [z]]) (.slice none 0 0) (.slice none 0 0) (.slice none 0 0) (.slice none 0 0) (.slice p' 3 c') := nb26
    refine nEndB5 nb26 ((((res17.mod o19 (by omega)).mod o20 (by omega)).still (s22.trans s23)).mod m26 (by omega)) (Nat.lt_succ_self _) ?_
    rcases (hm.still (s22.trans s23)).mod m26 (by intro k hk e; omega) with ⟨e, s11, h11, hr⟩ | ⟨k, hk, e, hr⟩
    · rw [hr] at htg
      exact .inl ⟨e, s11, h11, htg⟩
    · rw [hr] at htg
      exact .inr ⟨k, hk, e, htg⟩
  · rw [if_neg (by rw [hx]; decide)] at htg
    refine (rztake_spec h17 0 tElse).mono ?_
    rintro _ w28 ⟨rfl, o28, h28⟩
    have nb28 := nb17.on o28
    have res28 := res17.mod o28 (by omega)
    have hl28 := nb28.row.lt
    refine .inl ⟨_, rfl, bsel_of (fun hy => ?_) (fun hy => ?_)⟩
    · rw [if_pos hy] at htg h28
      refine (rzsome_of hc h28 (hb10.suf (tail_suf _))).mono ?_
      rintro e29 w29 hp
      obtain ⟨o29, z, pw, cw, pa, ca, pr, cr, po, co, pk, ck, er7, rfl, hnd, hm⟩ := hp.res
      have hz29 := o29.size
      refine .inl ⟨_, _, _, _, _, _, _, _, _, _, _, _, _, _, _, _, _, _, _, rfl, boxK rfl (by simp [Value.oneCell']) fun w31 r31 s31 z31 => ?_⟩
      have o2831 : Only g w28 w31 := o29.tr s31.only
      have nb31 := nb28.on o2831
      refine ⟨_, _, _, nb31.row.lget rfl, _, _, _, _, _, _, _, _, _, _, _, _, _, _, _, _, _, _, r31.lget rfl, r31.lget rfl, r31.lget rfl, r31.lget rfl, r31.lget rfl, r31.lget rfl, r31.lget rfl, r31.lget rfl, ?_⟩
      have hnz : NdE w31 (fun k => w28.heap.size ≤ k ∧ k < w31.heap.size) z _ := (hnd.still s31).mono fun k hk => ⟨by have := hk.1; omega, by have := hk.2; omega⟩
      refine NB.addK' nb28 o2831 hnz (show 2 < 1000000 by decide) fun p' c' w34 X34 nb34 m34 => ?_
      have nb34 : NB w w34 g gn (w.heap.size + 1) X34 (.mk 6 false [] [] [] [] [] [x, y, z]) (.slice none 0 0) (.slice none 0 0) (.slice none 0 0) (.slice none 0 0) (.slice p' 3 c') := nb34
      refine nEndB5 nb34 (((res28.mod o29 (by omega)).still s31).mod m34 (by omega)) (Nat.lt_succ_self _) ?_
      rcases (hm.still s31).mod m34 (by intro k hk e; omega) with ⟨e, s11, h11, hr⟩ | ⟨k, hk, e, hr⟩
      · rw [hr] at htg
        exact .inl ⟨e, s11, h11, htg⟩
      · rw [hr] at htg
        exact .inr ⟨k, hk, e, htg⟩
    · rw [if_neg (by rw [hy]; decide)] at htg h28
      exact nEndB5 nb28 res28 (Nat.lt_succ_self _) (.inl ⟨rfl, s10, h28, htg⟩)
theorem rzloop5_of {L : Nat} (hL : L < 100) (hc : RCmdS L) {g kk : Nat} {t : Txt} {r : Ts} (h : Rz w g ((kk, t) :: r)) (hb : TB ((kk, t) :: r)) : Calls Tryz.prog fn_ref09_parser_loop #[.pointer (some ⟨g, 0, none⟩), .int .i64 (31 - ((L + 1 : Nat) : Int))] w (RzC w g (loopSF (lvS L).1 t r)) := by
  refine ref09_parser_loop_calls _ _ _ _ ?_
  have hg := h.lt
  have hss := someF_suf (lvS_suf L).1
  unfold vc_ref09_parser_loop
  rw [dep_up hL]
  have hlv : loopSF (lvS L).1 t r = (someF (lvS L).1 r).and fun c => (bodyF (lvS L).1 c.2).and fun b => .ok (Nd.mk 7 false t [] [] [] [] [c.1, b.1], b.2) := rfl
  rw [hlv]
  clear hlv
  generalize htg : ((someF (lvS L).1 r).and fun c => (bodyF (lvS L).1 c.2).and fun b => .ok (Nd.mk 7 false t [] [] [] [] [c.1, b.1], b.2)) = target
  obtain ⟨LL, cc, n, bb, hn, hl, _, hs⟩ := h.at
  refine allocK fun w1 r1 s1 z1 => ⟨fun wq => Still w wq, s1.trans (drew_still w1), some bb, LL, cc, fun wq hq => (hs wq hq).1, n, fun wq hq => (hs wq hq).2.1, by omega, by omega, t, fun wq hq => (hs wq hq).2.2.2.2, allocK fun w2 r2 s2 z2 => ⟨(s1.trans (drew_still w1)).trans s2, stK r2 (by simp) (by simp [Value.oneCell']) fun w3 r3 m3 z3 => ?_⟩⟩
  have zd : w1.drew.heap.size = w1.heap.size := rfl
  have r3 : Row w3 w1.drew.heap.size 31 ⟨ncell (.mk 7 false t [] [] [] [] []) (.slice none 0 0) (.slice none 0 0) (.slice none 0 0) (.slice none 0 0) (.slice none 0 0)⟩ := r3
  have s03 : Still w w3 := Mod.trans ((s1.trans (drew_still w1)).trans s2) m3 (fun _ h => h) (fun i hi e => by omega)
  have res3 : Row w3 w.heap.size 31 ⟨zcell⟩ := ((r1.still (drew_still w1)).still s2).mod m3 (by omega)
  refine (h.still s03).step fun w4 o4 h4 => (rzsome_of hc h4 hb.tail).mono ?_
  rintro e5 w5 hp
  obtain ⟨o5, x, pw, cw, pa, ca, pr, cr, po, co, pk, ck, er, rfl, hnd, hm⟩ := hp.res
  have hz4 := o4.size
  have hz5 := o5.size
  refine .inl ⟨_, _, _, _, _, _, _, _, _, _, _, _, _, _, _, _, _, _, _, rfl, boxK rfl (by simp [Value.oneCell']) fun w7 r7 s7 z7 => ?_⟩
  have o37 : Only g w3 w7 := (o4.tr o5).tr s7.only
  have r37 := r3.mod o37 (by omega)
  have res7 := res3.mod o37 (by omega)
  have o07 := s03.only.tr o37
  have hm7 := hm.still s7
  refine bsel_of (fun hbad => ?_) (fun hok => ?_)
  · have hne : er ≠ 0 := nt hbad
    rcases hm7 with ⟨e, _⟩ | ⟨k, hk, e, hr⟩
    · exact absurd e hne
    rw [hr] at htg
    rw [e]
    exact tEnd_bad5 htg.symm hk hg o07 res7
  have he0 : er = 0 := nf hok
  rcases hm7 with ⟨_, s10, h7, hr⟩ | ⟨k, hk, e, hr⟩
  rotate_left
  · omega
  rw [hr, Rs.ok_and] at htg
  dsimp only at htg
  have hq2 := hss _ _ hr
  dsimp only at hq2
  have hnd7 := hnd.still s7
  refine (rzbody_of hL hc h7 (hb.tail.suf hq2)).mono ?_
  rintro e9 w9 hp
  obtain ⟨o9, y, pw', cw', pa', ca', pr', cr', po', co', pk', ck', er1, rfl, hnd', hm⟩ := hp.res
  have hz9 := o9.size
  refine .inl ⟨_, _, _, _, _, _, _, _, _, _, _, _, _, _, _, _, _, _, _, rfl, boxK rfl (by simp [Value.oneCell']) fun w11 r11 s11 z11 => ?_⟩
  have r79 := (r7.mod o9 (by omega)).still s11
  refine ⟨_, _, _, _, _, _, _, _, _, _, _, _, _, _, _, _, _, _, r79.lget rfl, r79.lget rfl, r79.lget rfl, r79.lget rfl, r79.lget rfl, r79.lget rfl, r79.lget rfl, r79.lget rfl, _, _, _, _, _, _, _, _, _, _, _, _, _, _, _, _, _, _, r11.lget rfl, r11.lget rfl, r11.lget rfl, r11.lget rfl, r11.lget rfl, r11.lget rfl, r11.lget rfl, r11.lget rfl, allocK fun w12 r12 s12 z12 => ?_⟩
  have s912 := s11.trans s12
  have ndx : NdE w12 (fun k => w.heap.size < k ∧ k < w12.heap.size ∧ k ≠ w1.drew.heap.size) x _ := ((hnd7.mod o9 (fun k hk (e : k = g) => by have h1 : w4.heap.size ≤ k := hk.1; omega)).still s912).mono fun k hk => by
    have h1 : w4.heap.size ≤ k := hk.1
    have h2 : k < w5.heap.size := hk.2
    exact ⟨by omega, by omega, by omega⟩
  have ndy : NdE w12 (fun k => w.heap.size < k ∧ k < w12.heap.size ∧ k ≠ w1.drew.heap.size) y _ := (hnd'.still s912).mono fun k hk => by
    have h1 : w7.heap.size ≤ k := hk.1
    have h2 : k < w9.heap.size := hk.2
    exact ⟨by omega, by omega, by omega⟩
  refine kidsEnd5 (ks := [x, y]) ((r37.mod o9 (by omega)).still s912) r12 (cs_two ndx ndy) (by omega) (by omega) (by omega) hg ((o07.tr o9).tr s912.only) ((res7.mod o9 (by omega)).still s912) ?_
  rcases hm.still s912 with ⟨e, s11, h11, hr⟩ | ⟨k, hk, e, hr⟩
  · rw [hr] at htg
    exact .inl ⟨e, s11, h11, htg.symm⟩
  · rw [hr] at htg
    exact .inr ⟨k, hk, e, htg.symm⟩
theorem rzeach_of {L : Nat} (hL : L < 100) (hc : RCmdS L) {g : Nat} {s : Ts} (h : Rz w g s) (hb : TB s) : Calls Tryz.prog fn_ref09_parser_each #[.pointer (some ⟨g, 0, none⟩), .int .i64 (31 - ((L + 1 : Nat) : Int))] w (RzC w g (eachF (lvS L).1 s)) := by
  refine ref09_parser_each_calls _ _ _ _ ?_
  have hg := h.lt
  refine allocK fun w1 r1 s1 z1 => ?_
  refine ⟨fun w6 => Still w1 w6 ∧ ∃ t r, s = (0, t) :: r ∧ isName t = true, ⟨fun b w4 => Still w1 w4 ∧ ((b = true ∧ eachF (lvS L).1 s = .bad 100) ∨ (b = false ∧ ∃ t r, s = (0, t) :: r ∧ isName t = true)), ⟨fun wq => Still w1 wq, drew_still w1, (rzword_spec ((h.still s1).still (drew_still w1))).mono ?_⟩, ?_⟩, ?_⟩
  · rintro _ w2 ⟨rfl, s2⟩
    have s12 := (drew_still w1).trans s2
    refine .inl ⟨_, rfl, s12, bsel_of (fun hx => ⟨s12, s12, .inl ⟨rfl, ?_⟩⟩) (fun hx => ?_)⟩
    · have hx : isW s = false := by simpa using hx
      match s, hx with
      | [], _ => rfl
      | (k, t) :: r, hx =>
        simp only [eachF]
        rw [if_neg (fun hk => of_decide_eq_false hx hk.1)]
    have hx : isW s = true := by simpa using hx
    obtain ⟨t, r, rfl⟩ : ∃ t r, s = (0, t) :: r := by
      match s, hx with
      | (k, t) :: r, hx => exact ⟨t, r, by rw [show k = 0 from of_decide_eq_true hx]⟩
    obtain ⟨LL, cc, n, bb, hn, hl, _, hs⟩ := h.at
    refine ⟨some bb, LL, cc, fun wq hq => (hs wq (s1.trans hq)).1, n, fun wq hq => (hs wq (s1.trans hq)).2.1, by omega, by omega, t, fun wq hq => (hs wq (s1.trans hq)).2.2.2.2, some bb, LL, cc, fun wq hq => (hs wq (s1.trans hq)).1, n, fun wq hq => (hs wq (s1.trans hq)).2.1, by omega, by omega, t, fun wq hq => (hs wq (s1.trans hq)).2.2.2.2, (ref_Name_spec t hb.head.1).mono ?_⟩
    rintro _ w3 ⟨rfl, rfl⟩
    refine .inl ⟨_, rfl, s12, s12, ?_⟩
    by_cases hnm : (nameN t : Int) = (t.length : Int)
    · refine .inr ⟨by rw [decide_eq_true hnm]; rfl, t, r, rfl, decide_eq_true ⟨hb.head.2, by omega⟩⟩
    · refine .inl ⟨by rw [decide_eq_false hnm]; rfl, ?_⟩
      simp only [eachF]
      rw [if_neg (by rintro ⟨_, hn⟩; exact hnm (by have := (of_decide_eq_true hn).2; omega))]
  · rintro b _ w4 ⟨s4, hb4⟩
    refine bsel_of (fun hbt => ?_) (fun hbf => ?_)
    · rcases hb4 with ⟨_, ht⟩ | ⟨e, _⟩
      · exact tEnd_bad5 ht (by decide) hg (s1.trans s4).only (r1.still s4)
      · rw [hbt] at e
        cases e
    · rcases hb4 with ⟨e, _⟩ | ⟨_, hr⟩
      · rw [hbf] at e
        cases e
      · exact ⟨s4, hr⟩
  rintro _ w6 ⟨s16, t, r, rfl, hname⟩
  have s6 := s1.trans s16
  have hlv : eachF (lvS L).1 ((0, t) :: r) = if isT 0 tIn (linesF r) = true then (manyF wordsS [] (linesF r).tail).and fun x => if isT 1 tSemi x.2 = true ∨ isT 2 [10] x.2 = true then eachE (lvS L).1 t x.1 [tIn] x.2 else .bad 100
      else eachE (lvS L).1 t [] [] (linesF r) := by
    simp only [eachF]
    rw [if_pos ⟨trivial, hname⟩]
  rw [hlv]
  clear hlv
  have hz6 := s6.size
  have hz16 := s16.size
  have res6 := r1.still s16
  obtain ⟨LL, cc, n, bb, hn, hl, _, hs⟩ := h.at
  refine ⟨fun wq => Still w wq, s6.trans (drew_still w6), some bb, LL, cc, fun wq hq => (hs wq hq).1, n, fun wq hq => (hs wq hq).2.1, by omega, by omega, t, fun wq hq => (hs wq hq).2.2.2.2, allocK fun w7 r7 s7 z7 => ⟨(s6.trans (drew_still w6)).trans s7, stK r7 (by simp) (by simp [Value.oneCell']) fun w8 r8 m8 z8 => ?_⟩⟩
  have zd : w6.drew.heap.size = w6.heap.size := rfl
  have r8 : Row w8 w6.drew.heap.size 31 ⟨ncell (.mk 8 false t [] [] [] [] []) (.slice none 0 0) (.slice none 0 0) (.slice none 0 0) (.slice none 0 0) (.slice none 0 0)⟩ := r8
  have s08 : Still w w8 := Mod.trans ((s6.trans (drew_still w6)).trans s7) m8 (fun _ h => h) (fun i hi e => by omega)
  have res8 : Row w8 w.heap.size 31 ⟨zcell⟩ := ((res6.still (drew_still w6)).still s7).mod m8 (by omega)
  have nb8 := NB.mk0 (w0 := w) (g := g) (B := w.heap.size + 1) r8 s08.only hg (by omega) (by omega) ⟨rfl, rfl, rfl, rfl, rfl⟩
  generalize hgn : w6.drew.heap.size = gn at *
  have hbr := hb.tail
  refine (h.still s08).step fun w9 o9 h9 => (rzlines_spec h9).mono ?_
  rintro _ w10 ⟨rfl, o10, h10⟩
  have nb10 := (nb8.on o9).on o10
  have res10 := (res8.mod o9 (by omega)).mod o10 (by omega)
  have hbl := hbr.suf (linesF_suf r)
  generalize linesF r = l0 at *
  generalize htg : (if isT 0 tIn l0 = true then (manyF wordsS [] l0.tail).and fun x => if isT 1 tSemi x.2 = true ∨ isT 2 [10] x.2 = true then eachE (lvS L).1 t x.1 [tIn] x.2 else .bad 100 else eachE (lvS L).1 t [] [] l0) = target
  refine .inl ⟨rfl, fun w25 => ∃ s9 ws os vw vo X, NB w w25 g gn (w.heap.size + 1) X (.mk 8 false t ws [] [] os []) vw (.slice none 0 0) (.slice none 0 0) vo (.slice none 0 0) ∧ Row w25 w.heap.size 31 ⟨zcell⟩ ∧ Rz w25 g s9 ∧ s9 <:+ l0 ∧ target = eachE (lvS L).1 t ws os s9, (rztake_spec h10 0 tIn).mono ?_, ?_⟩
  · rintro _ w11 ⟨rfl, o11, h11⟩
    have nb11 := nb10.on o11
    have res11 := res10.mod o11 (by omega)
    refine .inl ⟨_, rfl, bsel_of (fun hx => ?_) (fun hx => ?_)⟩
    rotate_left
    · rw [if_neg (by rw [hx]; decide)] at h11 htg
      exact ⟨l0, [], [], _, _, _, nb11, res11, h11, List.suffix_refl _, htg.symm⟩
    rw [if_pos hx] at h11 htg
    refine setO_spec (y := tIn) nb11 fun vo14 w13 X13 nb13 m13 => ?_
    have nb13 : NB w w13 g gn (w.heap.size + 1) X13 (.mk 8 false t [] [] [] [tIn] []) (.slice none 0 0) (.slice none 0 0) (.slice none 0 0) vo14 (.slice none 0 0) := nb13
    have res13 := res11.mod m13 (by omega)
    have h13 := h11.mod m13 (by intro k hk e; omega)
    have hl0 := hbl.1
    have htl := isT_len hx
    refine ⟨fun w14 => ∃ s9 ws vw X, NB w w14 g gn (w.heap.size + 1) X (.mk 8 false t ws [] [] [tIn] []) vw (.slice none 0 0) (.slice none 0 0) vo14 (.slice none 0 0) ∧ Row w14 w.heap.size 31 ⟨zcell⟩ ∧ Rz w14 g s9 ∧ s9 <:+ l0 ∧ ws.length + s9.length ≤ l0.length ∧ manyF wordsS ws s9 = manyF wordsS [] l0.tail, rzLen g, ⟨l0.tail, [], _, _, nb13, res13, h13, tail_suf _, by simp only [List.length_nil]; omega, rfl⟩, ?_⟩
    rintro _ w14 ⟨s9, ws, vw, X, nb14, res14, h14, hsf9, hlen, heq⟩
    have hm := manyF_step wordsS_sinks ws s9
    rw [heq] at hm
    have hb9 := hbl.suf hsf9
    refine (rzword_spec h14).mono ?_
    rintro _ w15 ⟨rfl, s15⟩
    have nb15 := nb14.still s15
    have res15 := res14.still s15
    have h15 := h14.still s15
    refine .inl ⟨_, rfl, bsel_of (fun hy => ?_) (fun hy => ?_)⟩
    · have hst : wordsS ws s9 = (partsF s9).and fun x => .ok (.inl (ws ++ [x.1], x.2)) := by unfold wordsS; rw [if_pos hy]
      rw [hst] at hm
      clear hst
      refine (rzparts_spec h15 hb9).mono ?_
      rintro e16 w16 ⟨o16, hp⟩
      have nb16 := nb15.on o16
      have res16 := res15.mod o16 (by omega)
      cases hr : partsF s9 with
      | bad k =>
        rw [hr] at hp hm
        obtain ⟨hk, rfl⟩ := hp
        have hm : manyF wordsS [] l0.tail = .bad k := hm
        rw [hm] at htg
        refine .inl ⟨_, _, _, _, rfl, bsel_of (fun _ => ?_) (fun h0 => absurd (nf h0) (show ¬ ((k : Int) = 0) by omega))⟩
        exact tEnd_bad5 htg.symm hk hg nb16.only res16
      | ok z =>
        rw [hr] at hp hm
        obtain ⟨v, rfl, hsl, h16⟩ := hp
        obtain ⟨q, d, rfl⟩ := hsl.form
        have hz1 := partsF_eats _ _ hr
        have hz2 := partsF_suf _ _ hr
        obtain ⟨pp, cp, hvw⟩ := nb15.ow.form
        have hvw : vw = .slice pp ws.length cp := hvw
        subst hvw
        refine .inl ⟨_, _, _, _, rfl, bsel_of (fun h0 => absurd rfl (nt h0)) (fun _ => ⟨pp, ws.length, cp, nb16.row.lget rfl, NB.addW' nb15 o16 ⟨_, rfl, hsl⟩ (show ws.length < 1000000 by omega) fun p' c' w20 X20 nb20 m20 => ?_⟩)⟩
        have h20 := h16.mod m20 (by intro k hk e; omega)
        exact ⟨⟨z.2, ws ++ [z.1], _, X20, nb20, res16.mod m20 (by omega), h20, hz2.trans hsf9, by simp only [List.length_append, List.length_cons, List.length_nil]; omega, hm.symm⟩, by rw [h20.len, h14.len]; omega⟩
    · have hst : wordsS ws s9 = .ok (.inr (ws, s9)) := by unfold wordsS; rw [if_neg (by rw [hy]; decide)]
      rw [hst] at hm
      have hm : manyF wordsS [] l0.tail = .ok (ws, s9) := hm
      rw [hm, Rs.ok_and] at htg
      clear hst hm heq
      refine ⟨fun b w23 => Still w15 w23 ∧ (b = true ↔ ¬ (isT 1 tSemi s9 = true ∨ isT 2 [10] s9 = true)), (rzis_spec h15 1 tSemi).mono ?_, ?_⟩
      · rintro _ w21 ⟨rfl, s21⟩
        refine .inl ⟨_, rfl, bsel_of (fun h1 => (rzis_spec (h15.still s21) 2 [10]).mono ?_) (fun h1 => ⟨s21, ?_⟩)⟩
        · rintro _ w22 ⟨rfl, s22⟩
          have h1 : isT 1 tSemi s9 = false := by simpa using h1
          refine .inl ⟨_, rfl, s21.trans s22, ?_⟩
          rw [h1]
          simp
        · have h1 : isT 1 tSemi s9 = true := by simpa using h1
          rw [h1]
          simp
      · rintro b _ w23 ⟨s23, hb23⟩
        have nb23 := nb15.still s23
        refine bsel_of (fun hbt => ?_) (fun hbf => ?_)
        · rw [if_neg (hb23.1 hbt)] at htg
          exact tEnd_bad5 htg.symm (by decide) hg nb23.only (res15.still s23)
        · rw [if_pos (Classical.byContradiction fun hn => by rw [hb23.2 hn] at hbf; cases hbf)] at htg
          exact ⟨s9, ws, [tIn], vw, vo14, X, nb23, res15.still s23, h15.still s23, hsf9, htg.symm⟩
  · rintro _ w25 ⟨s9, ws, os, vw, vo, X, nb25, res25, h25, hsf9, ht9⟩
    clear htg
    have hlv : eachE (lvS L).1 t ws os s9 = (bodyF (lvS L).1 (linesF (if isT 1 tSemi s9 = true then s9.tail else s9))).and fun b => .ok (.mk 8 false t ws [] [] os [b.1], b.2) := rfl
    rw [hlv] at ht9
    clear hlv
    refine (rztake_spec h25 1 tSemi).mono ?_
    rintro _ w26 ⟨rfl, o26, h26⟩
    have hb26 : TB (if isT 1 tSemi s9 = true then s9.tail else s9) := (hbl.suf hsf9).suf (ite_suf _ s9)
    generalize (if isT 1 tSemi s9 = true then s9.tail else s9) = s10 at *
    refine .inl ⟨_, rfl, (rzlines_spec h26).mono ?_⟩
    rintro _ w27 ⟨rfl, o27, h27⟩
    have nb27 := (nb25.on o26).on o27
    have res27 := (res25.mod o26 (by omega)).mod o27 (by omega)
    have hl27 := nb27.row.lt
    refine .inl ⟨rfl, (rzbody_of hL hc h27 (hb26.suf (linesF_suf _))).mono ?_⟩
    rintro e28 w28 hp
    obtain ⟨o28, z, pw, cw, pa, ca, pr, cr, po, co, pk, ck, er, rfl, hnd, hm⟩ := hp.res
    have hz28 := o28.size
    refine .inl ⟨_, _, _, _, _, _, _, _, _, _, _, _, _, _, _, _, _, _, _, rfl, boxK rfl (by simp [Value.oneCell']) fun w30 r30 s30 z30 => ?_⟩
    refine ⟨_, _, _, _, _, _, _, _, _, _, _, _, _, _, _, _, _, _, r30.lget rfl, r30.lget rfl, r30.lget rfl, r30.lget rfl, r30.lget rfl, r30.lget rfl, r30.lget rfl, r30.lget rfl, ?_⟩
    have hnz : NdE w30 (fun k => w27.heap.size ≤ k ∧ k < w30.heap.size) z _ := (hnd.still s30).mono fun k hk => ⟨hk.1, by have := hk.2; omega⟩
    refine setK_spec nb27 (o28.tr s30.only) hnz fun vk12 w32 X32 nb32 m32 => ?_
    refine nEndB5 nb32 (((res27.mod o28 (by omega)).still s30).mod m32 (by omega)) (Nat.lt_succ_self _) ?_
    rcases (hm.still s30).mod m32 (by intro k hk e; omega) with ⟨e, s11, h11, hr⟩ | ⟨k, hk, e, hr⟩
    · rw [hr] at ht9
      exact .inl ⟨e, s11, h11, ht9⟩
    · rw [hr] at ht9
      exact .inr ⟨k, hk, e, ht9⟩
theorem rzitem_of {L : Nat} (hL : L < 100) (hc : RCmdS L) {g : Nat} {s : Ts} (h : Rz w g s) (hb : TB s) : Calls Tryz.prog fn_ref09_parser_item #[.pointer (some ⟨g, 0, none⟩), .int .i64 (31 - ((L + 1 : Nat) : Int))] w (RzP w g (itemF (lvS L).1 s)) := by
  refine ref09_parser_item_calls _ _ _ _ ?_
  have hg := h.lt
  unfold vc_ref09_parser_item
  rw [dep_up hL]
  have hlv : itemF (lvS L).1 s = (partsF (if isT 1 tOpen s = true then s.tail else s)).and fun w => (manyF orsS ([] ++ [w.1]) w.2).and fun ws =>
    if isT 1 tShut ws.2 = true then (listF (lvS L).1 ws.2.tail).and fun x => .ok (.mk 10 false [] ws.1 [] [] [] [x.1], x.2) else .bad 100 := rfl
  rw [hlv]
  clear hlv
  refine allocK fun w1 r1 s1 z1 => (rztake_spec (h.still s1) 1 tOpen).mono ?_
  rintro _ w2 ⟨rfl, o2, h2⟩
  have hz2 := o2.size
  have hb2 : TB (if isT 1 tOpen s = true then s.tail else s) := hb.suf (ite_suf _ s)
  have res2 : Row w2 w.heap.size 31 ⟨zcell⟩ := r1.mod o2 (by omega)
  generalize (if isT 1 tOpen s = true then s.tail else s) = s0 at *
  generalize hF : (fun ws : List (List Pt) × Ts => if isT 1 tShut ws.2 = true then (listF (lvS L).1 ws.2.tail).and fun x => Rs.ok (Nd.mk 10 false [] ws.1 [] [] [] [x.1], x.2) else .bad 100) = F
  generalize htg : ((partsF s0).and fun w => (manyF orsS ([] ++ [w.1]) w.2).and F) = target
  have hl0 := hb2.1
  refine .inl ⟨_, rfl, boxK rfl (by simp [Value.oneCell']) fun w4 r4 s4 z4 => ?_⟩
  have nb4 := NB.mk0 (w0 := w) (g := g) (B := w.heap.size + 1) (x := .mk 10 false [] [] [] [] [] []) r4 ((s1.only.tr o2).tr s4.only) hg (by omega) (by omega) ⟨rfl, rfl, rfl, rfl, rfl⟩
  have res4 := res2.still s4
  have h4 := h2.still s4
  have hgn : w.heap.size + 1 ≤ w2.heap.size := by omega
  generalize w2.heap.size = gn at *
  refine ⟨fun first w5 => ∃ s9 ws vw X, NB w w5 g gn (w.heap.size + 1) X (.mk 10 false [] ws [] [] [] []) vw (.slice none 0 0) (.slice none 0 0) (.slice none 0 0) (.slice none 0 0) ∧ Row w5 w.heap.size 31 ⟨zcell⟩ ∧ Rz w5 g s9 ∧ s9 <:+ s0 ∧ ws.length + s9.length ≤ s0.length ∧ ((first = true ∧ target = (partsF s9).and fun x => (manyF orsS (ws ++ [x.1]) x.2).and F) ∨ (first = false ∧ target = (manyF orsS ws s9).and F)), fun _ => rzLen g, ⟨s0, [], _, _, nb4, res4, h4, List.suffix_refl _, by simp only [List.length_nil]; omega, .inl ⟨rfl, htg.symm⟩⟩, ?_⟩
  rintro first _ w5 ⟨s9, ws, vw, X, nb5, res5, h5, hsf9, hlen, hfirst⟩
  refine ⟨fun w16 => ∃ s9 , NB w w16 g gn (w.heap.size + 1) X (.mk 10 false [] ws [] [] [] []) vw (.slice none 0 0) (.slice none 0 0) (.slice none 0 0) (.slice none 0 0) ∧ Row w16 w.heap.size 31 ⟨zcell⟩ ∧ Rz w16 g s9 ∧ s9 <:+ s0 ∧ ws.length + s9.length ≤ s0.length ∧ s9.length ≤ rzLen g w5 ∧ target = (partsF s9).and fun x => (manyF orsS (ws ++ [x.1]) x.2).and F,
    ⟨fun b w7 => NB w w7 g gn (w.heap.size + 1) X (.mk 10 false [] ws [] [] [] []) vw (.slice none 0 0) (.slice none 0 0) (.slice none 0 0) (.slice none 0 0) ∧ Row w7 w.heap.size 31 ⟨zcell⟩ ∧ ∃ s9, Rz w7 g s9 ∧ s9 <:+ s0 ∧ ws.length + s9.length ≤ s0.length ∧ s9.length ≤ rzLen g w5 ∧ ((b = true ∧ target = (partsF s9).and fun x => (manyF orsS (ws ++ [x.1]) x.2).and F) ∨ (b = false ∧ target = F (ws, s9))), bsel_of (fun hf => ?_) (fun hf => ?_), ?_⟩, ?_⟩
  · rcases hfirst with ⟨_, ht⟩ | ⟨e, _⟩
    · exact ⟨nb5, res5, s9, h5, hsf9, hlen, by rw [h5.len]; omega, .inl ⟨rfl, ht⟩⟩
    · rw [hf] at e
      cases e
  · rcases hfirst with ⟨e, _⟩ | ⟨_, ht⟩
    · rw [hf] at e
      cases e
    rw [manyF_step orsS_sinks] at ht
    refine (rztake_spec h5 1 tPipe).mono ?_
    rintro _ w6 ⟨rfl, o6, h6⟩
    refine .inl ⟨_, rfl, nb5.on o6, res5.mod o6 (by omega), ?_⟩
    cases hx : isT 1 tPipe s9 with
    | true =>
      rw [if_pos hx] at h6
      have htl := isT_len hx
      have hst : orsS ws s9 = (partsF s9.tail).and fun x => .ok (.inl (ws ++ [x.1], x.2)) := by unfold orsS; rw [if_pos hx]
      rw [hst] at ht
      refine ⟨s9.tail, h6, (tail_suf _).trans hsf9, by omega, by rw [h5.len]; omega, .inl ⟨rfl, ?_⟩⟩
      rw [ht]
      cases partsF s9.tail <;> rfl
    | false =>
      rw [if_neg (by rw [hx]; decide)] at h6
      have hst : orsS ws s9 = .ok (.inr (ws, s9)) := by unfold orsS; rw [if_neg (by rw [hx]; decide)]
      rw [hst] at ht
      exact ⟨s9, h6, hsf9, hlen, by rw [h5.len]; omega, .inr ⟨rfl, ht⟩⟩
  · rintro b _ w7 ⟨nb7, res7, s9, h7, hsf9, hlen, hrl, hb7⟩
    refine bsel_of (fun hbt => ?_) (fun hbf => ?_)
    · rcases hb7 with ⟨_, ht⟩ | ⟨e, _⟩
      · exact ⟨s9, nb7, res7, h7, hsf9, hlen, hrl, ht⟩
      · rw [hbt] at e
        cases e
    rcases hb7 with ⟨e, _⟩ | ⟨_, ht⟩
    · rw [hbf] at e
      cases e
    subst hF
    dsimp only at ht
    refine (rztake_spec h7 1 tShut).mono ?_
    rintro _ w8 ⟨rfl, o8, h8⟩
    have nb8 := nb7.on o8
    have res8 := res7.mod o8 (by omega)
    have hl8 := nb8.row.lt
    refine .inl ⟨_, rfl, bsel_of (fun hx => ?_) (fun hx => ?_)⟩
    · have hx : isT 1 tShut s9 = false := by simpa using hx
      rw [if_neg (by rw [hx]; decide)] at ht
      exact tEnd_bad ht (by decide) hg nb8.only res8
    have hx : isT 1 tShut s9 = true := by simpa using hx
    rw [if_pos hx] at ht h8
    have hlist := rzlist_of hc h8 ((hb2.suf hsf9).suf (tail_suf _)) true
    rw [listE_true] at hlist
    refine hlist.mono ?_
    rintro e10 w10 hp
    obtain ⟨o10, z, pw, cw, pa, ca, pr, cr, po, co, pk, ck, er, rfl, hnd, hm⟩ := hp.res
    have hz10 := o10.size
    refine .inl ⟨_, _, _, _, _, _, _, _, _, _, _, _, _, _, _, _, _, _, _, rfl, boxK rfl (by simp [Value.oneCell']) fun w12 r12 s12 z12 => ?_⟩
    refine ⟨_, _, _, _, _, _, _, _, _, _, _, _, _, _, _, _, _, _, r12.lget rfl, r12.lget rfl, r12.lget rfl, r12.lget rfl, r12.lget rfl, r12.lget rfl, r12.lget rfl, r12.lget rfl, ?_⟩
    have hnz : NdE w12 (fun k => w8.heap.size ≤ k ∧ k < w12.heap.size) z _ := (hnd.still s12).mono fun k hk => ⟨hk.1, by have := hk.2; omega⟩
    refine setK_spec nb8 (o10.tr s12.only) hnz fun vk12 w14 X14 nb14 m14 => ?_
    refine nEndB nb14 (((res8.mod o10 (by omega)).still s12).mod m14 (by omega)) (Nat.lt_succ_self _) ?_
    rcases (hm.still s12).mod m14 (by intro k hk e; omega) with ⟨e, s11, h11, hr⟩ | ⟨k, hk, e, hr⟩
    · rw [hr] at ht
      exact .inl ⟨e, s11, h11, ht⟩
    · rw [hr] at ht
      exact .inr ⟨k, hk, e, ht⟩
  · clear hfirst
    rintro _ w16 ⟨s10, nb16, res16, h16, hsf10, hlen10, hrl, ht⟩
    have hl16 := nb16.row.lt
    refine (rzparts_spec h16 (hb2.suf hsf10)).mono ?_
    rintro e17 w17 ⟨o17, hp⟩
    have nb17 := nb16.on o17
    have res17 := res16.mod o17 (by omega)
    cases hr : partsF s10 with
    | bad k =>
      rw [hr] at hp ht
      obtain ⟨hk, rfl⟩ := hp
      refine .inl ⟨_, _, _, _, rfl, bsel_of (fun _ => ?_) (fun h0 => absurd (nf h0) (show ¬ ((k : Int) = 0) by omega))⟩
      exact tEnd_bad ht hk hg nb17.only res17
    | ok z =>
      rw [hr] at hp ht
      obtain ⟨v, rfl, hsl, h17⟩ := hp
      obtain ⟨q, d, rfl⟩ := hsl.form
      have hz1 := partsF_eats _ _ hr
      have hz2 := partsF_suf _ _ hr
      obtain ⟨pp, cp, hvw⟩ := nb16.ow.form
      have hvw : vw = .slice pp ws.length cp := hvw
      subst hvw
      refine .inl ⟨_, _, _, _, rfl, bsel_of (fun h0 => absurd rfl (nt h0)) (fun _ => ⟨pp, ws.length, cp, nb17.row.lget rfl, NB.addW' nb16 o17 ⟨_, rfl, hsl⟩ (show ws.length < 1000000 by omega) fun p' c' w20 X20 nb20 m20 => ?_⟩)⟩
      have h20 := h17.mod m20 (by intro k hk e; omega)
      exact ⟨⟨z.2, ws ++ [z.1], _, X20, nb20, res17.mod m20 (by omega), h20, hz2.trans hsf10, by simp only [List.length_append, List.length_cons, List.length_nil]; omega, .inr ⟨rfl, ht⟩⟩, by dsimp only; rw [h20.len]; omega⟩
theorem rzcases_of {L : Nat} (hL : L < 100) (hc : RCmdS L) {g : Nat} {s : Ts} (h : Rz w g s) (hb : TB s) : Calls Tryz.prog fn_ref09_parser_cases #[.pointer (some ⟨g, 0, none⟩), .int .i64 (31 - ((L + 1 : Nat) : Int))] w (RzC w g (casesF (lvS L).1 s)) := by
  refine ref09_parser_cases_calls _ _ _ _ ?_
  have hg := h.lt
  have he := (lvS_eats L).1
  have hlv : casesF (lvS L).1 s = (partsF s).and fun w => if isT 0 tIn (linesF w.2) = true then manyF (caseS (lvS L).1 w.1) [] (linesF (linesF w.2).tail) else .bad 100 := rfl
  rw [hlv]
  clear hlv
  refine allocK fun w1 r1 s1 z1 => (rzparts_spec (h.still s1) hb).mono ?_
  rintro e2 w2 ⟨o2, hp⟩
  have hz2 := o2.size
  have res2 : Row w2 w.heap.size 31 ⟨zcell⟩ := r1.mod o2 (by omega)
  cases hr : partsF s with
  | bad k =>
    rw [hr] at hp
    obtain ⟨hk, rfl⟩ := hp
    refine .inl ⟨_, _, _, _, rfl, bsel_of (fun _ => ?_) (fun h0 => absurd (nf h0) (show ¬ ((k : Int) = 0) by omega))⟩
    exact tEnd_bad5 rfl hk hg (s1.only.tr o2) res2
  | ok y =>
  rw [hr] at hp
  obtain ⟨v, rfl, hsl, h2⟩ := hp
  obtain ⟨q, d, rfl⟩ := hsl.form
  have hy2 := partsF_suf _ _ hr
  clear hr
  rw [Rs.ok_and]
  refine .inl ⟨_, _, _, _, rfl, bsel_of (fun h0 => absurd rfl (nt h0)) (fun _ => allocK fun w4 r4 s4 z4 => boxK rfl (by simp [Value.oneCell']) fun w6 r6 s6 z6 => ?_)⟩
  have s26 := s4.trans s6
  have hsl6 : SlAt w6 (fun k => w.heap.size + 1 ≤ k ∧ k < w6.heap.size ∧ k ≠ w4.heap.size ∧ k ≠ w2.heap.size) y.1 (.slice q y.1.length d) := hsl.turn (fun k hk => by
    have h1 : w1.heap.size ≤ k := hk.1
    have h2 : k < w2.heap.size := hk.2
    exact ⟨by omega, by omega, by omega, by omega⟩) fun a v _ hcell => s26.cell hcell
  have nb6 := NB.mkW (w0 := w) (g := g) (B := w.heap.size + 1) (x := .mk 9 false [] [y.1] [] [] [] []) r6 (r4.still s6) hsl6 ((s1.only.tr o2).tr s26.only) hg (by omega) (by omega) (by omega) (by omega) ⟨rfl, rfl, rfl, rfl, rfl⟩
  have res6 := res2.still s26
  have h6 := h2.still s26
  have hgn : w.heap.size + 1 ≤ w4.heap.size := by omega
  generalize w4.heap.size = gn at *
  generalize hvw : Value.slice (some ⟨w2.heap.size, 0, none⟩) 1 1 = vw at nb6
  refine (rzlines_spec h6).mono ?_
  rintro _ w7 ⟨rfl, o7, h7⟩
  refine .inl ⟨rfl, (rztake_spec h7 0 tIn).mono ?_⟩
  rintro _ w8 ⟨rfl, o8, h8⟩
  have nb8 := (nb6.on o7).on o8
  have res8 := (res6.mod o7 (by omega)).mod o8 (by omega)
  refine .inl ⟨_, rfl, bsel_of (fun ht => ?_) (fun ht => ?_)⟩
  · have ht : isT 0 tIn (linesF y.2) = false := by simpa using ht
    rw [if_neg (by rw [ht]; decide)]
    exact tEnd_bad5 rfl (by decide) hg nb8.only res8
  have ht : isT 0 tIn (linesF y.2) = true := by simpa using ht
  rw [if_pos ht] at h8 ⊢
  refine (rzlines_spec h8).mono ?_
  rintro _ w10 ⟨rfl, o10, h10⟩
  have hs0s : linesF (linesF y.2).tail <:+ s := (linesF_suf _).trans ((tail_suf _).trans ((linesF_suf _).trans hy2))
  generalize linesF (linesF y.2).tail = s0 at *
  have hb0 := hb.suf hs0s
  have hs0 := hb0.1
  generalize htg : manyF (caseS (lvS L).1 y.1) [] s0 = target
  refine .inl ⟨rfl, fun w11 => ∃ s9 ks vk X, NB w w11 g gn (w.heap.size + 1) X (.mk 9 false [] [y.1] [] [] [] ks) vw (.slice none 0 0) (.slice none 0 0) (.slice none 0 0) vk ∧ Row w11 w.heap.size 31 ⟨zcell⟩ ∧ Rz w11 g s9 ∧ s9 <:+ s0 ∧ ks.length + s9.length ≤ s0.length ∧ manyF (caseS (lvS L).1 y.1) ks s9 = target, rzLen g, ⟨s0, [], _, _, nb8.on o10, res8.mod o10 (by omega), h10, List.suffix_refl _, by simp only [List.length_nil]; omega, htg⟩, ?_⟩
  clear htg
  rintro _ w11 ⟨s9, ks, vk, X11, nb11, res11, h11, hsf9, hlen, htg⟩
  rw [manyF_step (caseS_sinks he _)] at htg
  have hb9 := hb0.suf hsf9
  refine (rztake_spec h11 0 tEsac).mono ?_
  rintro _ w12 ⟨rfl, o12, h12⟩
  have nb12 := nb11.on o12
  have res12 := res11.mod o12 (by omega)
  have hl12 := nb12.row.lt
  refine .inl ⟨_, rfl, bsel_of (fun hx => ?_) (fun hx => ?_)⟩
  rotate_left
  · have hx : isT 0 tEsac s9 = true := by simpa using hx
    rw [if_pos hx] at h12
    have hst : caseS (lvS L).1 y.1 ks s9 = .ok (.inr (.mk 9 false [] [y.1] [] [] [] ks, s9.tail)) := by unfold caseS; rw [if_pos hx]
    rw [hst] at htg
    exact nEndB5 nb12 res12 (Nat.lt_succ_self _) (.inl ⟨rfl, s9.tail, h12, htg.symm⟩)
  have hx : isT 0 tEsac s9 = false := by simpa using hx
  rw [if_neg (by rw [hx]; decide)] at h12
  have hst : caseS (lvS L).1 y.1 ks s9 = (itemF (lvS L).1 s9).and fun x =>
    if isT 1 tSemi2 x.2 = true then .ok (.inl (ks ++ [x.1], linesF x.2.tail))
    else if isT 0 tEsac x.2 = true then .ok (.inl (ks ++ [x.1], linesF x.2))
    else .bad 100 := by unfold caseS; rw [if_neg (by rw [hx]; decide)]
  rw [hst] at htg
  clear hst
  refine (rzitem_of hL hc h12 hb9).mono ?_
  rintro e13 w13 hp
  obtain ⟨o13, z, pw, cw, pa, ca, pr, cr, po, co, pk, ck, er, rfl, hnd, hm⟩ := hp.res
  have hz13 := o13.size
  refine .inl ⟨_, _, _, _, _, _, _, _, _, _, _, _, _, _, _, _, _, _, _, rfl, boxK rfl (by simp [Value.oneCell']) fun w15 r15 s15 z15 => ?_⟩
  have o1215 : Only g w12 w15 := o13.tr s15.only
  have res15 := (res12.mod o13 (by omega)).still s15
  have nb15 := nb12.on o1215
  refine bsel_of (fun hbad => ?_) (fun hok => ?_)
  · have hne : er ≠ 0 := nt hbad
    rcases hm with ⟨e, _⟩ | ⟨k, hk, e, hr⟩
    · exact absurd e hne
    rw [hr] at htg
    rw [e]
    exact tEnd_bad5 htg.symm hk hg nb15.only res15
  have he0 : er = 0 := nf hok
  rcases hm.still s15 with ⟨_, s10, h15, hr⟩ | ⟨k, hk, e, hr⟩
  rotate_left
  · omega
  rw [hr, Rs.ok_and] at htg
  dsimp only at htg
  have hz1 := itemF_eats he _ _ hr
  have hz2 := itemF_suf (lvS_suf L).1 _ _ hr
  dsimp only at hz1 hz2
  obtain ⟨pp, cp, hvk⟩ := nb12.ok.form
  have hvk : vk = .slice pp ks.length cp := hvk
  subst hvk
  refine ⟨pp, ks.length, cp, nb15.row.lget rfl, _, _, _, _, _, _, _, _, _, _, _, _, _, _, _, _, _, _, r15.lget rfl, r15.lget rfl, r15.lget rfl, r15.lget rfl, r15.lget rfl, r15.lget rfl, r15.lget rfl, r15.lget rfl, ?_⟩
  have hnz : NdE w15 (fun k => w12.heap.size ≤ k ∧ k < w15.heap.size) z _ := (hnd.still s15).mono fun k hk => ⟨hk.1, by have := hk.2; omega⟩
  refine NB.addK' nb12 o1215 hnz (show ks.length < 1000000 by omega) fun p' c' w19 X19 nb19 m19 => ?_
  have nb19 : NB w w19 g gn (w.heap.size + 1) X19 (.mk 9 false [] [y.1] [] [] [] (ks ++ [z])) vw (.slice none 0 0) (.slice none 0 0) (.slice none 0 0) (.slice p' (ks.length + 1) c') := nb19
  have res19 := res15.mod m19 (by omega)
  have h19 := h15.mod m19 (by intro k hk e; omega)
  refine (rztake_spec h19 1 tSemi2).mono ?_
  rintro _ w20 ⟨rfl, o20, h20⟩
  have nb20 := nb19.on o20
  have res20 := res19.mod o20 (by omega)
  refine .inl ⟨_, rfl, bsel_of (fun hy => ?_) (fun hy => ?_)⟩
  rotate_left
  · have hy : isT 1 tSemi2 s10 = true := by simpa using hy
    rw [if_pos hy] at h20 htg
    refine (rzlines_spec h20).mono ?_
    rintro _ w24 ⟨rfl, o24, h24⟩
    have hll := linesF_le s10.tail
    have htl := isT_len hy
    exact .inl ⟨rfl, ⟨linesF s10.tail, ks ++ [z], _, X19, nb20.on o24, res20.mod o24 (by omega), h24, (linesF_suf _).trans ((tail_suf _).trans (hz2.trans hsf9)), by simp only [List.length_append, List.length_cons, List.length_nil]; omega, htg⟩, by rw [h24.len, h11.len]; omega⟩
  have hy : isT 1 tSemi2 s10 = false := by simpa using hy
  rw [if_neg (by rw [hy]; decide)] at h20 htg
  refine (rzis_spec h20 0 tEsac).mono ?_
  rintro _ w21 ⟨rfl, s21⟩
  have nb21 := nb20.still s21
  have res21 := res20.still s21
  refine .inl ⟨_, rfl, bsel_of (fun ht => ?_) (fun ht => ?_)⟩
  · have ht : isT 0 tEsac s10 = false := by simpa using ht
    rw [if_neg (by rw [ht]; decide)] at htg
    exact tEnd_bad5 htg.symm (by decide) hg nb21.only res21
  · have ht : isT 0 tEsac s10 = true := by simpa using ht
    rw [if_pos ht] at htg
    refine (rzlines_spec (h20.still s21)).mono ?_
    rintro _ w23 ⟨rfl, o23, h23⟩
    have hll := linesF_le s10
    exact .inl ⟨rfl, ⟨linesF s10, ks ++ [z], _, X19, nb21.on o23, res21.mod o23 (by omega), h23, (linesF_suf _).trans (hz2.trans hsf9), by simp only [List.length_append, List.length_cons, List.length_nil]; omega, htg⟩, by rw [h23.len, h11.len]; omega⟩
theorem simpleS_asg2 {a : List (List Pt) × List (Txt × List Pt) × List (Txt × List Pt)} {t : Txt} {r : Ts} (h : redirB ((0, t) :: r) = false) (ha : a.1 = []) (h0 : 0 < nameN t) (h1 : t[nameN t]? = some 61) : simpleS a ((0, t) :: r) = (wpL 30 (t.drop (nameN t + 1))).and fun l => .ok (.inl ((a.1, a.2.1 ++ [(t.take (nameN t), l)], a.2.2), r)) := by
  unfold simpleS
  rw [if_neg (by rw [h]; decide)]
  have : asgF t = some (t.take (nameN t), t.drop (nameN t + 1)) := by unfold asgF; rw [if_pos ⟨h0, h1⟩]
  simp only [if_pos ha, this]
  rfl
theorem simpleS_word2 {a : List (List Pt) × List (Txt × List Pt) × List (Txt × List Pt)} {t : Txt} {r : Ts} (h : redirB ((0, t) :: r) = false) (ha : ¬ (a.1 = [] ∧ 0 < nameN t ∧ t[nameN t]? = some 61)) : simpleS a ((0, t) :: r) = (partsF ((0, t) :: r)).and fun x => .ok (.inl ((a.1 ++ [x.1], a.2.1, a.2.2), x.2)) := by
  refine simpleS_word h ?_
  by_cases h1 : a.1 = []
  · right
    have : asgF t = none := by unfold asgF; rw [if_neg (fun hh => ha ⟨h1, hh.1, hh.2⟩)]
    simp only [asgR, this, Option.map_none]
  · exact .inl h1
set_option maxHeartbeats 1000000 in
theorem rzsimple_of {g : Nat} {s : Ts} (h : Rz w g s) (hb : TB s) : Calls Tryz.prog fn_ref09_parser_simple #[.pointer (some ⟨g, 0, none⟩)] w (RzP w g (simpleF s)) := by
  refine ref09_parser_simple_calls _ _ _ ?_
  have hg := h.lt
  have hs0 := hb.1
  refine allocK fun w1 r1 s1 z1 => allocK fun w2 r2 s2 z2 => ?_
  have r2 : Row w2 w1.heap.size 31 ⟨ncell (.mk 0 false [] [] [] [] [] []) (.slice none 0 0) (.slice none 0 0) (.slice none 0 0) (.slice none 0 0) (.slice none 0 0)⟩ := r2
  have nb2 := NB.mk0 (w0 := w) (g := g) (B := w.heap.size + 1) r2 (s1.trans s2).only hg (by omega) (by omega) ⟨rfl, rfl, rfl, rfl, rfl⟩
  have hgn : w.heap.size + 1 ≤ w1.heap.size := by omega
  have res2 : Row w2 w.heap.size 31 ⟨zcell⟩ := r1.still s2
  generalize w1.heap.size = gn at *
  generalize htg0 : simpleF s = target
  refine ⟨fun w3 => ∃ s9 ws asn rs vw va vr X, NB w w3 g gn (w.heap.size + 1) X (.mk 0 false [] ws asn rs [] []) vw va vr (.slice none 0 0) (.slice none 0 0) ∧ Row w3 w.heap.size 31 ⟨zcell⟩ ∧ Rz w3 g s9 ∧ s9 <:+ s ∧ ws.length + asn.length + rs.length + s9.length ≤ s.length ∧ manyF simpleS (ws, asn, rs) s9 = target, rzLen g, ⟨s, [], [], [], _, _, _, _, nb2, res2, (h.still s1).still s2, List.suffix_refl _, by simp only [List.length_nil]; omega, htg0⟩, ?_⟩
  clear htg0
  rintro _ w3 ⟨s9, ws, asn, rs, vw, va, vr, X, nb3, res3, h3, hsf9, hlen, htg⟩
  rw [manyF_step simpleS_sinks] at htg
  have hb9 := hb.suf hsf9
  refine ⟨fun w9 => Still w3 w9 ∧ (isW s9 || redirB s9) = true, ⟨fun b w6 => Still w3 w6 ∧ b = (isW s9 || redirB s9), (rzword_spec h3).mono ?_, ?_⟩, ?_⟩
  · rintro _ w4 ⟨rfl, s4⟩
    refine .inl ⟨_, rfl, bsel_of (fun hx => ⟨s4, by rw [hx]; rfl⟩) (fun hx => (rzredir_spec (h3.still s4)).mono ?_)⟩
    rintro _ w5 ⟨rfl, s5⟩
    exact .inl ⟨_, rfl, s4.trans s5, by rw [hx]; rfl⟩
  · rintro b _ w6 ⟨s6, hb6⟩
    refine bsel_of (fun h => ⟨s6, hb6 ▸ h⟩) (fun h => ?_)
    rw [hb6] at h
    have hno := Bool.or_eq_false_iff.1 h
    rw [simpleS_end hno.2 hno.1] at htg
    simp only at htg
    have nb6 := nb3.still s6
    have res6 := res3.still s6
    obtain ⟨pw, cw, hvw⟩ := nb6.ow.form
    obtain ⟨pa, ca, hva⟩ := nb6.oa.form
    obtain ⟨pr, cr, hvr⟩ := nb6.ord.form
    have hvw : vw = .slice pw ws.length cw := hvw
    have hva : va = .slice pa asn.length ca := hva
    have hvr : vr = .slice pr rs.length cr := hvr
    subst hvw hva hvr
    refine ⟨pw, ws.length, cw, nb6.row.lget rfl, pa, asn.length, ca, nb6.row.lget rfl, pr, rs.length, cr, nb6.row.lget rfl, ?_⟩
    rw [wrap_i64 (n := (ws.length : Int) + (asn.length : Int)) (by omega) (by omega), wrap_i64 (by omega) (by omega)]
    refine bsel_of (fun ht => ?_) (fun ht => ?_)
    · have ht := of_decide_eq_true ht
      rw [if_pos (by omega)] at htg
      exact tEnd_bad htg.symm (by decide) hg nb6.only res6
    · have ht := of_decide_eq_false ht
      rw [if_neg (by omega)] at htg
      exact nEndB nb6 res6 (Nat.lt_succ_self _) (.inl ⟨rfl, s9, h3.still s6, htg.symm⟩)
  rintro _ w9 ⟨s39, hor⟩
  have nb9 := nb3.still s39
  have res9 := res3.still s39
  have h9 := h3.still s39
  refine (rzredir_spec h9).mono ?_
  rintro _ w10 ⟨rfl, s10⟩
  have nb10 := nb9.still s10
  have res10 := res9.still s10
  have h10 := h9.still s10
  have hl10 := nb10.row.lt
  refine .inl ⟨_, rfl, bsel_of (fun hx => ?_) (fun hx => ?_)⟩
  · rw [simpleS_red (a := (ws, asn, rs)) hx] at htg
    obtain ⟨x, r, rfl⟩ : ∃ x r, s9 = x :: r := by
      match s9, hx with
      | x :: r, _ => exact ⟨x, r, rfl⟩
    refine (rzredirect_spec h10 hb9).mono ?_
    rintro e11 w11 ⟨o11, hp⟩
    have hz11 := o11.size
    have nb11 := nb10.on o11
    have res11 := res10.mod o11 (by omega)
    cases hr : redirF (x :: r) with
    | bad k =>
      rw [hr] at hp htg
      obtain ⟨hk, t, rfl⟩ := hp
      refine .inl ⟨_, _, _, _, _, rfl, boxK rfl (by simp [Value.oneCell']) fun w13 r13 s13 z13 => bsel_of (fun _ => ?_) (fun h0 => absurd (nf h0) (show ¬ ((k : Int) = 0) by omega))⟩
      exact tEnd_bad htg.symm hk hg (nb11.still s13).only (res11.still s13)
    | ok z =>
      rw [hr] at hp htg
      obtain ⟨v, rfl, hsl, h11⟩ := hp
      obtain ⟨q, d, rfl⟩ := hsl.form
      have hz1 := redirF_eats _ _ hr
      have hz2 := redirF_suf _ _ hr
      obtain ⟨pr, cr, hvr⟩ := nb10.ord.form
      have hvr : vr = .slice pr rs.length cr := hvr
      subst hvr
      refine .inl ⟨_, _, _, _, _, rfl, boxK rfl (by simp [Value.oneCell']) fun w13 r13 s13 z13 => bsel_of (fun h0 => absurd rfl (nt h0)) (fun _ => ?_)⟩
      have nb13 := nb11.still s13
      have hsl13 : SlAt w13 (fun k => w10.heap.size ≤ k ∧ k < w13.heap.size) z.1.2 (.slice q z.1.2.length d) := (hsl.still s13).mono fun k hk => ⟨hk.1, by have := hk.2; omega⟩
      refine ⟨pr, rs.length, cr, nb13.row.lget rfl, _, _, _, _, r13.lget rfl, r13.lget rfl, NB.addR' (y := z.1) nb10 (o11.tr s13.only) ⟨_, rfl, hsl13⟩ (show rs.length < 1000000 by omega) fun p' c' w17 X17 nb17 m17 => ?_⟩
      have h17 := (h11.still s13).mod m17 (by intro k hk e; omega)
      exact ⟨⟨z.2, ws, asn, rs ++ [z.1], vw, va, _, X17, nb17, (res11.still s13).mod m17 (by omega), h17, hz2.trans hsf9, by simp only [List.length_append, List.length_cons, List.length_nil]; omega, htg⟩, by rw [h17.len, h3.len]; omega⟩
  have hk : isW s9 = true := by rw [hx, Bool.or_false] at hor; exact hor
  obtain ⟨t, r, rfl⟩ : ∃ t r, s9 = (0, t) :: r := by
    match s9, hk with
    | (k, t) :: r, hk => exact ⟨t, r, by rw [show k = 0 from of_decide_eq_true hk]⟩
  simp only [List.length_cons] at hlen
  have htl := hb9.head.1
  obtain ⟨LL, cc, n, bb, hn, hl, _, hs⟩ := h10.at
  obtain ⟨c0, c1, _, c2, c3⟩ := hs w10 (Still.refl _)
  have hnl := nameN_le t
  refine ⟨some bb, LL, cc, c0, n, c1, by omega, by omega, t, c3, (ref_Name_spec t hb9.head.1).mono ?_⟩
  rintro _ w18 ⟨rfl, rfl⟩
  have nb18 := nb10.still (drew_still w10)
  have res18 := res10.still (drew_still w10)
  have h18 := h10.still (drew_still w10)
  obtain ⟨pw, cw, hvw⟩ := nb18.ow.form
  have hvw : vw = .slice pw ws.length cw := hvw
  subst hvw
  refine .inl ⟨_, rfl, fun w26 => w26 = w10.drew ∧ ¬ (ws = [] ∧ 0 < nameN t ∧ t[nameN t]? = some 61), ⟨fun b w19 => w19 = w10.drew ∧ (b = true ↔ (ws = [] ∧ 0 < nameN t ∧ t[nameN t]? = some 61)), ⟨pw, ws.length, cw, nb18.row.lget rfl, bsel_of (fun h0 => bsel_of (fun h1 => bsel_of (fun h2 => ?_) (fun h2 => ⟨rfl, fun h => (by cases h), fun hh => ?_⟩)) (fun h1 => ⟨rfl, fun h => (by cases h), fun hh => ?_⟩)) (fun h0 => ⟨rfl, fun h => (by cases h), fun hh => ?_⟩)⟩, ?_⟩, ?_⟩
  · have h0 : ws = [] := List.eq_nil_of_length_eq_zero (by have := of_decide_eq_true h0; omega)
    have h1 := of_decide_eq_true h1
    have h2 := of_decide_eq_true h2
    have hlt : nameN t < t.length := by omega
    refine ⟨by omega, t[nameN t], by rw [Int.toNat_natCast]; exact List.getElem?_eq_getElem hlt, rfl, ?_⟩
    rw [List.getElem?_eq_getElem hlt]
    have e := spec_eq t[nameN t] 61
    constructor
    · intro hh
      have hh : decide ((t[nameN t].toNat : Int) = ((61 : UInt8).toNat : Int)) = true := hh
      rw [e] at hh
      exact ⟨h0, by omega, congrArg some (by simpa using hh)⟩
    · rintro ⟨_, _, hh⟩
      show decide ((t[nameN t].toNat : Int) = ((61 : UInt8).toNat : Int)) = true
      rw [e, Option.some.inj hh]
      rfl
  · have h2 := of_decide_eq_false h2
    rw [List.getElem?_eq_none (by omega)] at hh
    cases hh.2.2
  · have h1 := of_decide_eq_false h1
    omega
  · have h0 := of_decide_eq_false h0
    rw [hh.1] at h0
    exact absurd rfl h0
  · rintro b _ w19 ⟨rfl, hb19⟩
    refine bsel_of (fun hbt => ?_) (fun hbf => ⟨rfl, fun hh => by rw [hb19.2 hh] at hbf; cases hbf⟩)
    obtain ⟨hws, hn0, hn1⟩ := hb19.1 hbt
    have hlt : nameN t < t.length := (List.getElem?_eq_some_iff.1 hn1).1
    rw [simpleS_asg2 (a := (ws, asn, rs)) hx hws hn0 hn1] at htg
    have e1 : IntKind.i64.wrap ((nameN t : Int) + 1) = ((nameN t + 1 : Nat) : Int) := by rw [wrap_i64 (by omega) (by omega)]; omega
    rw [e1, Int.toNat_natCast]
    refine ⟨by omega, by omega, (ref_Parse_spec (t.drop (nameN t + 1)) (by rw [List.length_drop]; omega)).mono ?_⟩
    rintro e20 w20 ⟨hp, s20⟩
    have hz20 := s20.size
    have nb20 := nb18.still s20
    have res20 := res18.still s20
    have h20 := h18.still s20
    cases hw : wpL 30 (t.drop (nameN t + 1)) with
    | bad j =>
      rw [hw] at hp htg
      have hj : j ≠ 0 := fun e => wpL_nz 30 _ (by rw [hw, e])
      refine .inl ⟨_, _, _, _, hp, bsel_of (fun _ => ?_) (fun h0 => absurd (nf h0) (show ¬ ((j : Int) = 0) by omega))⟩
      exact tEnd_bad htg.symm hj hg nb20.only res20
    | ok l =>
      rw [hw] at hp htg
      obtain ⟨v, rfl, hsl⟩ := hp
      have hsl := hsl.here
      obtain ⟨q, d, rfl⟩ := hsl.form
      obtain ⟨pa, ca, hva⟩ := nb18.oa.form
      have hva : va = .slice pa asn.length ca := hva
      subst hva
      have htg : manyF simpleS (ws, asn ++ [(t.take (nameN t), l)], rs) r = target := htg
      refine .inl ⟨_, _, _, _, rfl, bsel_of (fun h0 => absurd rfl (nt h0)) (fun _ => ?_)⟩
      have sdd := s20.trans (drew_still w20)
      have zdd : w20.drew.heap.size = w20.heap.size := rfl
      have hsl20 : SlAt w20.drew (fun k => w10.drew.heap.size ≤ k ∧ k < w20.drew.heap.size) l (.slice q l.length d) := (hsl.still (drew_still w20)).mono fun k hk => ⟨hk.1, hk.2⟩
      refine ⟨fun wq => Still w10.drew wq, sdd, pa, asn.length, ca, fun wq hq => (nb18.still hq).row.lget rfl, by omega, by omega, ?_⟩
      rw [Int.toNat_natCast]
      refine And.intro (sdd.trans ((Mod.refl _ _).alloc _)) (NB.addA' (y := (t.take (nameN t), l)) nb18 sdd.only ⟨_, rfl, hsl20⟩ (show asn.length < 1000000 by omega) fun p' c' w24 X24 nb24 m24 => ?_)
      have h24 := (h18.still sdd).mod m24 (by intro k hk e; omega)
      have res24 := (res18.still sdd).mod m24 (by omega)
      refine h24.step fun w25 o25 h25 => ?_
      exact ⟨⟨r, ws, asn ++ [(t.take (nameN t), l)], rs, _, _, _, X24, nb24.on o25, res24.mod o25 (by omega), h25, (List.suffix_cons _ _).trans hsf9, by simp only [List.length_append, List.length_cons, List.length_nil]; omega, htg⟩, by rw [h25.len, h3.len]; simp only [List.length_cons]; omega⟩
  · rintro _ w26 ⟨rfl, hno⟩
    rw [simpleS_word2 (a := (ws, asn, rs)) hx hno] at htg
    refine (rzparts_spec h18 hb9).mono ?_
    rintro e27 w27 ⟨o27, hp⟩
    have nb27 := nb18.on o27
    have res27 := res18.mod o27 (by omega)
    cases hr : partsF ((0, t) :: r) with
    | bad k =>
      rw [hr] at hp htg
      obtain ⟨hk, rfl⟩ := hp
      refine .inl ⟨_, _, _, _, rfl, bsel_of (fun _ => ?_) (fun h0 => absurd (nf h0) (show ¬ ((k : Int) = 0) by omega))⟩
      exact tEnd_bad htg.symm hk hg nb27.only res27
    | ok z =>
      rw [hr] at hp htg
      obtain ⟨v, rfl, hsl, h27⟩ := hp
      obtain ⟨q, d, rfl⟩ := hsl.form
      have hz1 := partsF_eats _ _ hr
      have hz2 := partsF_suf _ _ hr
      simp only [List.length_cons] at hz1
      refine .inl ⟨_, _, _, _, rfl, bsel_of (fun h0 => absurd rfl (nt h0)) (fun _ => ⟨pw, ws.length, cw, nb27.row.lget rfl, NB.addW' nb18 o27 ⟨_, rfl, hsl⟩ (show ws.length < 1000000 by omega) fun p' c' w31 X31 nb31 m31 => ?_⟩)⟩
      have h31 := h27.mod m31 (by intro k hk e; omega)
      exact ⟨⟨z.2, ws ++ [z.1], asn, rs, _, _, _, X31, nb31, res27.mod m31 (by omega), h31, hz2.trans hsf9, by simp only [List.length_append, List.length_cons, List.length_nil]; omega, htg⟩, by rw [h31.len, h3.len]; simp only [List.length_cons]; omega⟩
def StoreK (gn : Nat) (K : Int → World → Prop) (R : Ending → World → Prop) (ed : Ending) (w6 : World) : Prop :=
  (∃ rKind : Int, ∃ rNot : Bool, ∃ rName : List UInt8, ∃ (rWords : Option Addr) (rWordsL rWordsC : Nat), ∃ (rAssigns : Option Addr) (rAssignsL rAssignsC : Nat), ∃ (rRedirs : Option Addr) (rRedirsL rRedirsC : Nat), ∃ (rOps : Option Addr) (rOpsL rOpsC : Nat), ∃ (rKids : Option Addr) (rKidsL rKidsC : Nat), ∃ r1 : Int, ed = .returned (.tuple #[(.agg #[(.int .i64 rKind), (.bool rNot), (.string (S rName)), (.slice rWords rWordsL rWordsC), (.slice rAssigns rAssignsL rAssignsC), (.slice rRedirs rRedirsL rRedirsC), (.slice rOps rOpsL rOpsC), (.slice rKids rKidsL rKidsC)]), (.int .i64 r1)]) ∧ stCells (Addr.mk gn 0 none) (fun (w7 : World) => K r1 w7) 0 [(.int .i64 rKind), (.bool rNot), (.string (S rName)), (.slice rWords rWordsL rWordsC), (.slice rAssigns rAssignsL rAssignsC), (.slice rRedirs rRedirsL rRedirsC), (.slice rOps rOpsL rOpsC), (.slice rKids rKidsL rKidsC)] w6) ∨ (∃ ch, ed = .panicked ch ∧ R (.panicked ch) w6)
def CmdK (w0 : World) (g gn : Nat) (s : Ts) (T : Rs (Nd × Ts)) (er : Int) (w : World) : Prop := ∃ (x : Nd) (vw va vo vk : Value), Row w gn 31 ⟨ncell x vw va (.slice none 0 0) vo vk⟩ ∧ NdE w (fun k => w0.heap.size + 1 ≤ k ∧ k < w.heap.size ∧ k ≠ gn) x (ncell x vw va (.slice none 0 0) vo vk) ∧ x.rs = [] ∧ Only g w0 w ∧ Row w w0.heap.size 31 ⟨zcell⟩ ∧ Res g T x er w ∧ (∀ y, T = .ok y → y.2 <:+ s)
theorem storeK_of {w0 w5 : World} {g gn : Nat} {s : Ts} {T : Rs (Nd × Ts)} {e : Ending} {K : Int → World → Prop} {R : Ending → World → Prop} (hp : RzC w5 g T e w) (hgn5 : gn < w5.heap.size) (hgn0 : w0.heap.size < gn) (hrow : Row w5 gn 31 ⟨zcell⟩) (hres : Row w5 w0.heap.size 31 ⟨zcell⟩) (hg : g < w0.heap.size) (ho : Only g w0 w5) (hT : ∀ y, T = .ok y → y.2 <:+ s) (hK : ∀ er w7, CmdK w0 g gn s T er w7 → K er w7) : StoreK gn K R e w := by
  obtain ⟨h1, cs, er', he', h5⟩ := hp
  obtain ⟨o, x, pw, cw, pa, ca, pr, cr, po, co, pk, ck, er, rfl, hnd, hm⟩ := h1.res
  injection he' with he'
  injection he' with he'
  have he1 := congrArg (fun a : Array Value => a.toList) he'
  simp only [List.cons.injEq, and_true] at he1
  have he2 := he1.1
  injection he2 with he2
  have he3 := congrArg (fun a : Array Value => a.toList) he2
  have he3 : ncell x (.slice pw x.ws.length cw) (.slice pa x.as.length ca) (.slice pr x.rs.length cr) (.slice po x.os.length co) (.slice pk x.ks.length ck) = cs := he3
  subst he3
  have h5 : Value.slice pr x.rs.length cr = .slice none 0 0 := Option.some.inj h5
  have hrs : x.rs = [] := List.eq_nil_of_length_eq_zero (by injection h5)
  have hz := o.size
  refine .inl ⟨_, _, _, _, _, _, _, _, _, _, _, _, _, _, _, _, _, _, _, rfl, stK (hrow.mod o (by omega)) (by simp) (by simp [Value.oneCell']) fun w7 r7 m7 z7 => hK er w7 ?_⟩
  have r7 : Row w7 gn 31 ⟨ncell x (.slice pw x.ws.length cw) (.slice pa x.as.length ca) (.slice pr x.rs.length cr) (.slice po x.os.length co) (.slice pk x.ks.length ck)⟩ := r7
  rw [h5] at r7 hnd
  refine ⟨x, _, _, _, _, r7, (hnd.mod m7 fun k hk (e : k = gn) => by have := hk.1; omega).mono fun k hk => ⟨?_, by have := hk.2; omega, by have := hk.1; omega⟩, hrs, Mod.trans (ho.tr o) m7 (fun _ h => h) (fun i hi e => by omega), (hres.mod o (by omega)).mod m7 (by omega), hm.mod m7 (by intro k hk e; omega), hT⟩
  have := hk.1
  omega
theorem Rz.ite {g k : Nat} {t : Txt} {s : Ts} (h : Rz w g (if isT k t s = true then s.tail else s)) (hx : isT k t s = false) : Rz w g s := by
  rw [if_neg (by rw [hx]; decide)] at h
  exact h
theorem Rz.ite' {g k : Nat} {t : Txt} {s : Ts} (h : Rz w g (if isT k t s = true then s.tail else s)) (hx : isT k t s = true) : Rz w g s.tail := by
  rw [if_pos hx] at h
  exact h
theorem funcB_form {s : Ts} (h : funcB s = true) : ∃ x y z r, s = x :: y :: z :: r := by
  match s, h with
  | (k, t) :: r, h =>
    have h : (decide (k = 0) && isName t && isT 1 tOpen r && isT 1 tShut r.tail) = true := h
    simp only [Bool.and_eq_true] at h
    have h1 := isT_cons h.1.2
    have h2 := isT_cons h.2
    exact ⟨_, _, _, _, by rw [h1, h2]⟩
theorem rzcmd_zero : RCmdS 0 := by
  intro w g s h hb
  refine ref09_parser_command_calls _ _ _ _ ?_
  refine allocK fun w1 r1 s1 z1 => bsel_of (fun _ => ?_) (fun hx => absurd (by decide) (of_decide_eq_false hx))
  exact tEnd_bad (k := 2) rfl (by decide) h.lt s1.only r1
theorem rzredirs_of {w0 : World} {g gn : Nat} {s : Ts} {T : Rs (Nd × Ts)} {ex : Int} (hb : TB s) (hgn : w0.heap.size + 1 ≤ gn) (hg : g < w0.heap.size) (h : CmdK w0 g gn s T ex w) :
    ∃ (I : Int → World → Prop) (m : Int → World → Nat), (I ex w) ∧ ∀ (ex1 : Int) (_us5 : Nat → Value) (w37 : World), (I ex1 w37) → ∃ J4 : World → Prop, (∃ J5 : Bool → World → Prop, bsel (decide (ex1 = (0 : Int))) (Calls Tryz.prog fn_ref09_parser_redir #[(.pointer (some ⟨g, 0, none⟩))] w37 (fun ed w38 => (∃ r19 : Bool, ed = .returned (.bool r19) ∧ J5 r19 w38) ∨ (∃ ch, ed = .panicked ch ∧ RzP w0 g (T.and withR) (.panicked ch) w38))) (J5 false w37) ∧ ∀ (x3 : Bool) (_us6 : Nat → Value) (w39 : World), J5 x3 w39 → bsel x3 (J4 w39) (NExitT gn w0.heap.size ex1 w39 (RzP w0 g (T.and withR)))) ∧ ∀ (_us7 : Nat → Value) (w41 : World), J4 w41 → letW (w41.alloc (.cells #[(.string (S ([] : List UInt8))), (.slice none 0 0)] 58)) (fun (w42 : World) => Calls Tryz.prog fn_ref09_parser_redirect #[(.pointer (some ⟨g, 0, none⟩))] w42 (fun ed w43 => (∃ rOp : List UInt8, ∃ (rWord : Option Addr) (rWordL rWordC : Nat), ∃ r20 : Int, ed = .returned (.tuple #[(.agg #[(.string (S rOp)), (.slice rWord rWordL rWordC)]), (.int .i64 r20)]) ∧ stCells (Addr.mk w41.heap.size 0 none) (fun (w44 : World) => ∃ (v3 : Option Addr) (vL1 vC1 : Nat), w44.cell? (Addr.mk gn 5 none) = some (.slice v3 vL1 vC1) ∧ ∃ vOp : List UInt8, ∃ (vWord : Option Addr) (vWordL vWordC : Nat), w44.cell? (Addr.mk w41.heap.size 0 none) = some (.string (S vOp)) ∧ w44.cell? (Addr.mk w41.heap.size 1 none) = some (.slice vWord vWordL vWordC) ∧ letW (w44.alloc (.cells #[(.string (S vOp)), (.slice vWord vWordL vWordC)] 58)) (fun (w45 : World) => appK w45 58 2 40 v3 vL1 vC1 (some (Addr.mk w44.heap.size 0 none)) 1 (fun (p1 : Option Addr) (cp : Nat) (w46 : World) => stCells (Addr.mk gn 5 none) (fun (w47 : World) => I r20 w47 ∧ m r20 w47 < m ex1 w37) 0 [(.slice p1 (vL1 + 1) cp)] w46))) 0 [(.string (S rOp)), (.slice rWord rWordL rWordC)] w43) ∨ (∃ ch, ed = .panicked ch ∧ RzP w0 g (T.and withR) (.panicked ch) w43))) := by
  obtain ⟨x0, vw, va, vo, vk, hr, hn, hrs, ho, hres, hm, hT⟩ := h
  have hs0 := hb.1
  generalize htg : T.and withR = target
  refine ⟨fun er w37 => ∃ (x : Nd) (vw va vr vo vk : Value) (X : Nat → Prop), NR w0 w37 g gn (w0.heap.size + 1) X x vw va vr vo vk ∧ Row w37 w0.heap.size 31 ⟨zcell⟩ ∧ x.rs.length ≤ 30000 ∧ ((er = 0 ∧ ∃ s9, Rz w37 g s9 ∧ s9 <:+ s ∧ x.rs.length + s9.length ≤ s.length ∧ target = (manyF redirsS x.rs s9).and fun y => .ok (.mk x.k x.neg x.nm x.ws x.as y.1 x.os x.ks, y.2)) ∨ ∃ k : Nat, k ≠ 0 ∧ er = (k : Int) ∧ target = .bad k), fun er w => if er = 0 then rzLen g w + 1 else 0, ?_, ?_⟩
  · refine ⟨x0, vw, va, _, vo, vk, _, NR.mk0 hr ho hg (by omega) hgn hrs hn, hres, by rw [hrs]; simp, ?_⟩
    rcases hm with ⟨e, s9, h9, ht⟩ | ⟨k, hk, e, ht⟩
    · have hsf := hT _ ht
      rw [ht] at htg
      refine .inl ⟨e, s9, h9, hsf, by rw [hrs]; simp only [List.length_nil]; have := List.IsSuffix.length_le hsf; dsimp only at this; omega, ?_⟩
      rw [← htg, hrs]
      rfl
    · rw [ht] at htg
      exact .inr ⟨k, hk, e, htg.symm⟩
  rintro er _ w37 ⟨x, vw, va, vr, vo, vk, X, nr, res, hrl, hst⟩
  refine ⟨fun w41 => NR w0 w41 g gn (w0.heap.size + 1) X x vw va vr vo vk ∧ Row w41 w0.heap.size 31 ⟨zcell⟩ ∧ er = 0 ∧ ∃ y r, Rz w41 g (y :: r) ∧ redirB (y :: r) = true ∧ (y :: r) <:+ s ∧ x.rs.length + (r.length + 1) ≤ s.length ∧ target = ((manyF redirsS x.rs (y :: r)).and fun y => .ok (.mk x.k x.neg x.nm x.ws x.as y.1 x.os x.ks, y.2)) ∧ rzLen g w37 = r.length + 1,
    ⟨fun b w39 => NR w0 w39 g gn (w0.heap.size + 1) X x vw va vr vo vk ∧ Row w39 w0.heap.size 31 ⟨zcell⟩ ∧ ((b = true ∧ er = 0 ∧ ∃ y r, Rz w39 g (y :: r) ∧ redirB (y :: r) = true ∧ (y :: r) <:+ s ∧ x.rs.length + (r.length + 1) ≤ s.length ∧ target = ((manyF redirsS x.rs (y :: r)).and fun y => .ok (.mk x.k x.neg x.nm x.ws x.as y.1 x.os x.ks, y.2)) ∧ rzLen g w37 = r.length + 1) ∨ (b = false ∧ Res g target x er w39)), bsel_of (fun h0 => ?_) (fun h0 => ?_), ?_⟩, ?_⟩
  · have h0 := of_decide_eq_true h0
    rcases hst with ⟨_, s9, h9, hs9, hl9, ht9⟩ | ⟨k, hk, e, _⟩
    rotate_left
    · omega
    refine (rzredir_spec h9).mono ?_
    rintro _ w38 ⟨rfl, s38⟩
    refine .inl ⟨_, rfl, nr.still s38, res.still s38, ?_⟩
    cases hx : redirB s9 with
    | true =>
      match s9, h9, hs9, hl9, ht9, hx with
      | y :: r, h9, hs9, hl9, ht9, hx => exact .inl ⟨rfl, h0, y, r, h9.still s38, hx, hs9, hl9, ht9, h9.len⟩
    | false =>
      refine .inr ⟨rfl, .inl ⟨h0, s9, h9.still s38, ?_⟩⟩
      rw [ht9, manyF_step redirsS_sinks]
      have hst : redirsS x.rs s9 = .ok (.inr (x.rs, s9)) := by unfold redirsS; rw [if_neg (by rw [hx]; decide)]
      rw [hst]
      show Rs.ok (Nd.mk x.k x.neg x.nm x.ws x.as x.rs x.os x.ks, s9) = _
      rw [x.eta]
  · have h0 := of_decide_eq_false h0
    rcases hst with ⟨e, _⟩ | hbad
    · exact absurd e h0
    · exact ⟨nr, res, .inr ⟨rfl, .inr hbad⟩⟩
  · rintro b _ w39 ⟨nr39, res39, hst39⟩
    refine bsel_of (fun hbt => ?_) (fun hbf => ?_)
    · rcases hst39 with ⟨_, h1⟩ | ⟨e, _⟩
      · exact ⟨nr39, res39, h1⟩
      · rw [hbt] at e
        cases e
    rcases hst39 with ⟨e, _⟩ | ⟨_, hfin⟩
    · rw [hbf] at e
      cases e
    exact nEndR nr39.row nr39.nde hg nr39.only res39 (Nat.lt_succ_self _) hfin
  · rintro _ w41 ⟨nr41, res41, h0, y, r, h41, hx, hs9, hl9, ht9, hlen⟩
    have hl41 := nr41.row.lt
    refine allocK fun w42 r42 s42 z42 => (rzredirect_spec (h41.still s42) (hb.suf hs9)).mono ?_
    rintro e43 w43 ⟨o43, hp⟩
    have hz43 := o43.size
    rw [manyF_step redirsS_sinks] at ht9
    have hst : redirsS x.rs (y :: r) = (redirF (y :: r)).and fun z => .ok (.inl (x.rs ++ [z.1], z.2)) := by unfold redirsS; rw [if_pos hx]
    rw [hst] at ht9
    have go : ∀ (z : Txt × List Pt) (q : Option Addr) (d : Nat) (er2 : Int), SlAt w43 (fun k => w42.heap.size ≤ k ∧ k < w43.heap.size) z.2 (.slice q z.2.length d) → ((er2 = 0 ∧ ∃ s9, Rz w43 g s9 ∧ s9 <:+ (y :: r) ∧ s9.length < r.length + 1 ∧ target = (manyF redirsS (x.rs ++ [z]) s9).and fun y => .ok (.mk x.k x.neg x.nm x.ws x.as y.1 x.os x.ks, y.2)) ∨ ∃ k : Nat, k ≠ 0 ∧ er2 = (k : Int) ∧ target = .bad k) →
        stCells (Addr.mk w41.heap.size 0 none) (fun (w44 : World) => ∃ (v3 : Option Addr) (vL1 vC1 : Nat), w44.cell? (Addr.mk gn 5 none) = some (.slice v3 vL1 vC1) ∧ ∃ vOp : List UInt8, ∃ (vWord : Option Addr) (vWordL vWordC : Nat), w44.cell? (Addr.mk w41.heap.size 0 none) = some (.string (S vOp)) ∧ w44.cell? (Addr.mk w41.heap.size 1 none) = some (.slice vWord vWordL vWordC) ∧ letW (w44.alloc (.cells #[(.string (S vOp)), (.slice vWord vWordL vWordC)] 58)) (fun (w45 : World) => appK w45 58 2 40 v3 vL1 vC1 (some (Addr.mk w44.heap.size 0 none)) 1 (fun (p1 : Option Addr) (cp : Nat) (w46 : World) => stCells (Addr.mk gn 5 none) (fun (w47 : World) => (∃ (x : Nd) (vw va vr vo vk : Value) (X : Nat → Prop), NR w0 w47 g gn (w0.heap.size + 1) X x vw va vr vo vk ∧ Row w47 w0.heap.size 31 ⟨zcell⟩ ∧ x.rs.length ≤ 30000 ∧ ((er2 = 0 ∧ ∃ s9, Rz w47 g s9 ∧ s9 <:+ s ∧ x.rs.length + s9.length ≤ s.length ∧ target = (manyF redirsS x.rs s9).and fun y => .ok (.mk x.k x.neg x.nm x.ws x.as y.1 x.os x.ks, y.2)) ∨ ∃ k : Nat, k ≠ 0 ∧ er2 = (k : Int) ∧ target = .bad k)) ∧ (if er2 = 0 then rzLen g w47 + 1 else 0) < (if er = 0 then rzLen g w37 + 1 else 0)) 0 [(.slice p1 (vL1 + 1) cp)] w46))) 0 [(.string (S z.1)), (.slice q z.2.length d)] w43 := by
      intro z q d er2 hsl hgo
      refine stK (r42.mod o43 (by omega)) (by simp) (by simp [Value.oneCell']) fun w44 r44 m44 z44 => ?_
      have o4144 : Only g w41 w44 := Mod.trans (s42.only.tr o43) m44 (fun _ h => h) (fun i hi e => by omega)
      have nr44 := nr41.on o4144
      have hsl44 : SlAt w44 (fun k => w41.heap.size ≤ k ∧ k < w44.heap.size) z.2 (.slice q z.2.length d) := hsl.turn (fun k hk => by
        have h1 : w42.heap.size ≤ k := hk.1
        have h2 : k < w43.heap.size := hk.2
        exact ⟨by omega, by omega⟩) fun a v ⟨k, hk, ea⟩ hcell => mod_cell m44 (by rw [ea]; show ¬ k = w41.heap.size; have := hk.1; omega) hcell
      obtain ⟨pr, cr, hvr⟩ := nr41.ord.form
      subst hvr
      have hadd := NR.addR (y := z) nr41 o4144 ⟨_, rfl, hsl44⟩ (show x.rs.length < 1000000 by omega) (K := fun w47 => (∃ (x : Nd) (vw va vr vo vk : Value) (X : Nat → Prop), NR w0 w47 g gn (w0.heap.size + 1) X x vw va vr vo vk ∧ Row w47 w0.heap.size 31 ⟨zcell⟩ ∧ x.rs.length ≤ 30000 ∧ ((er2 = 0 ∧ ∃ s9, Rz w47 g s9 ∧ s9 <:+ s ∧ x.rs.length + s9.length ≤ s.length ∧ target = (manyF redirsS x.rs s9).and fun y => .ok (.mk x.k x.neg x.nm x.ws x.as y.1 x.os x.ks, y.2)) ∨ ∃ k : Nat, k ≠ 0 ∧ er2 = (k : Int) ∧ target = .bad k)) ∧ (if er2 = 0 then rzLen g w47 + 1 else 0) < (if er = 0 then rzLen g w37 + 1 else 0)) fun p' c' w47 X' nr47 m47 => ?_
      · exact ⟨pr, x.rs.length, cr, nr44.row.lget rfl, _, _, _, _, r44.lget rfl, r44.lget rfl, hadd.2⟩
      · have res47 := (res41.mod o4144 (by omega)).mod m47 (by omega)
        refine ⟨⟨x.addR z, vw, va, _, vo, vk, X', nr47, res47, by show (x.rs ++ [z]).length ≤ 30000; rw [List.length_append]; simp only [List.length_cons, List.length_nil]; omega, ?_⟩, ?_⟩
        · rcases hgo with ⟨e, s9, h9, hs10, hl10, ht⟩ | hbad
          · refine .inl ⟨e, s9, (h9.mod m44 (by intro k hk e; omega)).mod m47 (by intro k hk e; omega), hs10.trans hs9, ?_, ht⟩
            show (x.rs ++ [z]).length + _ ≤ _
            rw [List.length_append]
            simp only [List.length_cons, List.length_nil]
            omega
          · exact .inr hbad
        · rcases hgo with ⟨e, s9, h9, hs10, hl10, ht⟩ | ⟨k, hk, e, _⟩
          · rw [if_pos e, if_pos h0, ((h9.mod m44 (by intro k hk e; omega)).mod m47 (by intro k hk e; omega)).len, hlen]
            omega
          · rw [if_neg (by omega), if_pos h0]
            omega
    cases hr : redirF (y :: r) with
    | bad k =>
      rw [hr] at hp ht9
      obtain ⟨hk, t, rfl⟩ := hp
      exact .inl ⟨_, _, _, _, _, rfl, go (t, []) none 0 _ (SlAt.nil _ _ _ _) (.inr ⟨k, hk, rfl, ht9⟩)⟩
    | ok z =>
      rw [hr] at hp ht9
      obtain ⟨v, rfl, hsl, h43⟩ := hp
      obtain ⟨q, d, rfl⟩ := hsl.form
      have hz1 := redirF_eats _ _ hr
      have hz2 := redirF_suf _ _ hr
      exact .inl ⟨_, _, _, _, _, rfl, go z.1 q d _ hsl (.inl ⟨rfl, z.2, h43, hz2, hz1, ht9⟩)⟩
theorem compF_suf' {L : Nat} {s : Ts} {T : Rs (Nd × Ts)} (h : compF (lvS L).1 (branchF (lvS L).1 (lvS L).2) s = some T) (y : Nd × Ts) (hy : T = .ok y) : y.2 <:+ s := by
  have h1 := commandF_suf (lvS_suf L).1 (branchF_suf (lvS_suf L).1 (lvS_suf L).2)
  exact compF_suf (lvS_suf L).1 (branchF_suf (lvS_suf L).1 (lvS_suf L).2) h hy
theorem rzcmd_step {L : Nat} (hL : L < 30) (hc : RCmdS L) (hbr : RBrS L) : RCmdS (L + 1) := by
  intro w g s h hb
  refine ref09_parser_command_calls _ _ _ _ ?_
  have hg := h.lt
  have hlv : (lvS (L + 1)).1 s = match compF (lvS L).1 (branchF (lvS L).1 (lvS L).2) s with
    | some x => x.and withR
    | none => if resB s = true then .bad 100 else if funcB s = true then defF (lvS L).1 s else simpleF s := rfl
  rw [hlv]
  clear hlv
  refine allocK fun w1 r1 s1 z1 => bsel_of (fun hx => absurd (of_decide_eq_true hx) (by omega)) (fun _ => boxK rfl (by simp [Value.oneCell']) fun w4 r4 s4 z4 => ?_)
  have s04 := s1.trans s4
  have h4 := h.still s04
  have res4 : Row w4 w.heap.size 31 ⟨zcell⟩ := r1.still s4
  have hgn : w.heap.size + 1 ≤ w1.heap.size := by omega
  have hgl := r4.lt
  generalize w1.heap.size = gn at *
  generalize htg : (match compF (lvS L).1 (branchF (lvS L).1 (lvS L).2) s with
    | some x => x.and withR
    | none => if resB s = true then .bad 100 else if funcB s = true then defF (lvS L).1 s else simpleF s) = target
  have hT := fun T h => compF_suf' (L := L) (s := s) (T := T) h
  have key : ∀ T, compF (lvS L).1 (branchF (lvS L).1 (lvS L).2) s = some T → target = T.and withR := fun T hT => by rw [← htg, hT]
  have none_ : compF (lvS L).1 (branchF (lvS L).1 (lvS L).2) s = none → target = if resB s = true then .bad 100 else if funcB s = true then defF (lvS L).1 s else simpleF s := fun hn => by rw [← htg, hn]
  clear htg
  refine ⟨fun ex w36 => ∃ T, target = T.and withR ∧ CmdK w g gn s T ex w36, ?_, ?_⟩
  rotate_left
  · rintro ex _ w36 ⟨T, rfl, hk⟩
    exact rzredirs_of hb hgn hg hk
  have suf := tail_suf s
  refine (rztake_spec h4 1 tOpen).mono ?_
  rintro _ w5 ⟨rfl, o5, h5⟩
  have r5 := r4.mod o5 (by omega)
  have res5 := res4.mod o5 (by omega)
  have o05 := s04.only.tr o5
  refine .inl ⟨_, rfl, bsel_of (fun x1 => ?_) (fun x1 => ?_)⟩
  · have e : compF (lvS L).1 (branchF (lvS L).1 (lvS L).2) s = some (insideF (lvS L).1 5 1 tShut s.tail) := by unfold compF; rw [if_pos x1]
    refine (rzinside5_of (by omega) hc (h5.ite' x1) (hb.suf suf) 5 1 tShut).mono ?_
    rintro e6 w6 hp
    exact storeK_of hp r5.lt (by omega) r5 res5 hg o05 (fun y hy => hT _ e y hy) fun er w7 hk => ⟨_, key _ e, hk⟩
  replace h5 := h5.ite x1
  refine (rztake_spec h5 0 tBrace).mono ?_
  rintro _ w8 ⟨rfl, o8, h8⟩
  have r8 := r5.mod o8 (by omega)
  have res8 := res5.mod o8 (by omega)
  have o08 := o05.tr o8
  refine .inl ⟨_, rfl, bsel_of (fun x2 => ?_) (fun x2 => ?_)⟩
  · have e : compF (lvS L).1 (branchF (lvS L).1 (lvS L).2) s = some (insideF (lvS L).1 4 0 tEcarb s.tail) := by unfold compF; rw [if_neg (by rw [x1]; decide), if_pos x2]
    refine (rzinside5_of (by omega) hc (h8.ite' x2) (hb.suf suf) 4 0 tEcarb).mono ?_
    rintro e6 w6 hp
    exact storeK_of hp r8.lt (by omega) r8 res8 hg o08 (fun y hy => hT _ e y hy) fun er w7 hk => ⟨_, key _ e, hk⟩
  replace h8 := h8.ite x2
  refine (rztake_spec h8 0 tIf).mono ?_
  rintro _ w11 ⟨rfl, o11, h11⟩
  have r11 := r8.mod o11 (by omega)
  have res11 := res8.mod o11 (by omega)
  have o011 := o08.tr o11
  refine .inl ⟨_, rfl, bsel_of (fun x3 => ?_) (fun x3 => ?_)⟩
  · have e : compF (lvS L).1 (branchF (lvS L).1 (lvS L).2) s = some ((branchF (lvS L).1 (lvS L).2 s.tail).and (tookF 0 tFi)) := by unfold compF; rw [if_neg (by rw [x1]; decide), if_neg (by rw [x2]; decide), if_pos x3]
    refine (rzbranch5_of (by omega) hc hbr (h11.ite' x3) (hb.suf suf)).mono ?_
    rintro e12 w12 hp
    have hbsuf := branchF_suf (lvS_suf L).1 (lvS_suf L).2
    refine storeK_of (s := s) hp r11.lt (by omega) r11 res11 hg o011 (fun y hy => (hbsuf _ _ hy).trans suf) fun er w13 hk => ?_
    obtain ⟨x, vw, va, vo, vk, hr, hn, hrs, ho, hres, hm, hTs⟩ := hk
    generalize branchF (lvS L).1 (lvS L).2 s.tail = T0 at *
    have hgl13 := hr.lt
    refine ⟨fun b w15 => Only g w13 w15 ∧ ((b = true ∧ er = 0 ∧ T0.and (tookF 0 tFi) = .bad 100) ∨ (b = false ∧ Res g (T0.and (tookF 0 tFi)) x er w15)), bsel_of (fun h0 => ?_) (fun h0 => ?_), ?_⟩
    · have h0 := of_decide_eq_true h0
      rcases hm with ⟨_, s9, h9, ht⟩ | ⟨k, hk, e, ht⟩
      rotate_left
      · omega
      refine (rztake_spec h9 0 tFi).mono ?_
      rintro _ w14 ⟨rfl, o14, h14⟩
      refine .inl ⟨_, rfl, o14, ?_⟩
      rw [ht, Rs.ok_and]
      unfold tookF
      cases hy : isT 0 tFi s9 with
      | true =>
        rw [if_pos hy] at h14
        rw [if_pos rfl]
        exact .inr ⟨rfl, .inl ⟨h0, _, h14, rfl⟩⟩
      | false =>
        rw [if_neg (by decide)]
        exact .inl ⟨rfl, h0, rfl⟩
    · have h0 := of_decide_eq_false h0
      rcases hm with ⟨e, _⟩ | ⟨k, hk, e, ht⟩
      · exact absurd e h0
      rw [ht]
      exact ⟨(Still.refl _).only, .inr ⟨rfl, .inr ⟨k, hk, e, rfl⟩⟩⟩
    · rintro b _ w15 ⟨o15, hb15⟩
      have hz15 := o15.size
      have st : ∀ (ex : Int), Res g (T0.and (tookF 0 tFi)) x ex w15 → ∃ T, target = T.and withR ∧ CmdK w g gn s T ex w15 := fun ex hres15 => ⟨_, key _ e, x, vw, va, vo, vk, hr.mod o15 (by omega), (hn.mod o15 fun k hk (e : k = g) => by have := hk.1; omega).mono fun k hk => ⟨hk.1, by have := hk.2.1; omega, hk.2.2⟩, hrs, ho.tr o15, hres.mod o15 (by omega), hres15, fun y hy => hT _ e y hy⟩
      refine bsel_of (fun hbt => ?_) (fun hbf => ?_)
      · rcases hb15 with ⟨_, _, ht⟩ | ⟨e, _⟩
        · exact st 100 (.inr ⟨100, by decide, rfl, ht⟩)
        · rw [hbt] at e
          cases e
      · rcases hb15 with ⟨e, _⟩ | ⟨_, hr15⟩
        · rw [hbf] at e
          cases e
        · exact st er hr15
  replace h11 := h11.ite x3
  refine ⟨fun b w18 => Still w11 w18 ∧ b = (isT 0 tWhile s || isT 0 tUntil s), (rzis_spec h11 0 tWhile).mono ?_, ?_⟩
  · rintro _ w16 ⟨rfl, s16⟩
    refine .inl ⟨_, rfl, bsel_of (fun hx => ⟨s16, by rw [hx]; rfl⟩) (fun hx => (rzis_spec (h11.still s16) 0 tUntil).mono ?_)⟩
    rintro _ w17 ⟨rfl, s17⟩
    exact .inl ⟨_, rfl, s16.trans s17, by rw [hx]; rfl⟩
  rintro b _ w18 ⟨s18, hb18⟩
  have r18 := r11.still s18
  have res18 := res11.still s18
  have o018 := o011.tr s18.only
  have h18 := h11.still s18
  refine bsel_of (fun hx => ?_) (fun hx => ?_)
  · rw [hb18] at hx
    by_cases x4 : isT 0 tWhile s = true
    · have e : compF (lvS L).1 (branchF (lvS L).1 (lvS L).2) s = some (loopSF (lvS L).1 tWhile s.tail) := by unfold compF; rw [if_neg (by rw [x1]; decide), if_neg (by rw [x2]; decide), if_neg (by rw [x3]; decide), if_pos x4]
      have h18' := h18
      have hb' := hb
      rw [isT_cons x4] at h18' hb'
      refine (rzloop5_of (by omega) hc h18' hb').mono ?_
      rintro e19 w19 hp
      exact storeK_of hp r18.lt (by omega) r18 res18 hg o018 (fun y hy => hT _ e y hy) fun er w7 hk => ⟨_, key _ e, hk⟩
    · have x4 : isT 0 tWhile s = false := by simpa using x4
      have x5 : isT 0 tUntil s = true := by rw [x4, Bool.false_or] at hx; exact hx
      have e : compF (lvS L).1 (branchF (lvS L).1 (lvS L).2) s = some (loopSF (lvS L).1 tUntil s.tail) := by unfold compF; rw [if_neg (by rw [x1]; decide), if_neg (by rw [x2]; decide), if_neg (by rw [x3]; decide), if_neg (by rw [x4]; decide), if_pos x5]
      have h18' := h18
      have hb' := hb
      rw [isT_cons x5] at h18' hb'
      refine (rzloop5_of (by omega) hc h18' hb').mono ?_
      rintro e19 w19 hp
      exact storeK_of hp r18.lt (by omega) r18 res18 hg o018 (fun y hy => hT _ e y hy) fun er w7 hk => ⟨_, key _ e, hk⟩
  rw [hb18] at hx
  obtain ⟨x4, x5⟩ := Bool.or_eq_false_iff.1 hx
  refine (rztake_spec h18 0 tFor).mono ?_
  rintro _ w21 ⟨rfl, o21, h21⟩
  have r21 := r18.mod o21 (by omega)
  have res21 := res18.mod o21 (by omega)
  have o021 := o018.tr o21
  refine .inl ⟨_, rfl, bsel_of (fun x6 => ?_) (fun x6 => ?_)⟩
  · have e : compF (lvS L).1 (branchF (lvS L).1 (lvS L).2) s = some (eachF (lvS L).1 s.tail) := by unfold compF; rw [if_neg (by rw [x1]; decide), if_neg (by rw [x2]; decide), if_neg (by rw [x3]; decide), if_neg (by rw [x4]; decide), if_neg (by rw [x5]; decide), if_pos x6]
    refine (rzeach_of (by omega) hc (h21.ite' x6) (hb.suf suf)).mono ?_
    rintro e22 w22 hp
    exact storeK_of hp r21.lt (by omega) r21 res21 hg o021 (fun y hy => hT _ e y hy) fun er w7 hk => ⟨_, key _ e, hk⟩
  replace h21 := h21.ite x6
  refine (rztake_spec h21 0 tCase).mono ?_
  rintro _ w24 ⟨rfl, o24, h24⟩
  have r24 := r21.mod o24 (by omega)
  have res24 := res21.mod o24 (by omega)
  have o024 := o021.tr o24
  refine .inl ⟨_, rfl, bsel_of (fun x7 => ?_) (fun x7 => ?_)⟩
  · have e : compF (lvS L).1 (branchF (lvS L).1 (lvS L).2) s = some (casesF (lvS L).1 s.tail) := by unfold compF; rw [if_neg (by rw [x1]; decide), if_neg (by rw [x2]; decide), if_neg (by rw [x3]; decide), if_neg (by rw [x4]; decide), if_neg (by rw [x5]; decide), if_neg (by rw [x6]; decide), if_pos x7]
    refine (rzcases_of (by omega) hc (h24.ite' x7) (hb.suf suf)).mono ?_
    rintro e25 w25 hp
    exact storeK_of hp r24.lt (by omega) r24 res24 hg o024 (fun y hy => hT _ e y hy) fun er w7 hk => ⟨_, key _ e, hk⟩
  replace h24 := h24.ite x7
  have e : compF (lvS L).1 (branchF (lvS L).1 (lvS L).2) s = none := by unfold compF; rw [if_neg (by rw [x1]; decide), if_neg (by rw [x2]; decide), if_neg (by rw [x3]; decide), if_neg (by rw [x4]; decide), if_neg (by rw [x5]; decide), if_neg (by rw [x6]; decide), if_neg (by rw [x7]; decide)]
  have htg := none_ e
  clear key none_ e hT
  refine ⟨fun b w29 => Still w24 w29 ∧ b = resB s, ⟨fun wq => Still w24 wq, drew_still w24, (rzword_spec (h24.still (drew_still w24))).mono ?_⟩, ?_⟩
  · rintro _ w27 ⟨rfl, s27⟩
    have s2427 := (drew_still w24).trans s27
    refine .inl ⟨_, rfl, s2427, bsel_of (fun hx => ?_) (fun hx => ⟨s2427, ?_⟩)⟩
    · obtain ⟨t, r, rfl⟩ : ∃ t r, s = (0, t) :: r := by
        match s, hx with
        | (k, t) :: r, hx => exact ⟨t, r, by rw [show k = 0 from of_decide_eq_true hx]⟩
      obtain ⟨LL, cc, n, bb, hn, hl, _, hs⟩ := h24.at
      refine ⟨some bb, LL, cc, fun wq hq => (hs wq hq).1, n, fun wq hq => (hs wq hq).2.1, by omega, by omega, t, fun wq hq => (hs wq hq).2.2.2.2, (rzreserved_spec t).mono ?_⟩
      rintro _ w28 ⟨rfl, rfl⟩
      exact .inl ⟨_, rfl, s2427, rfl⟩
    · match s, hx with
      | [], _ => rfl
      | (k, t) :: r, hx =>
        have hk : decide (k = 0) = false := hx
        show false = (decide (k = 0) && (closL.contains t || decide (t = tBang)))
        rw [hk]
        rfl
  rintro b _ w29 ⟨s29, hb29⟩
  have h29 := h24.still s29
  have res29 := res24.still s29
  have o029 := o024.tr s29.only
  refine bsel_of (fun hx => ?_) (fun hx => ?_)
  · rw [hb29] at hx
    rw [if_pos hx] at htg
    exact tEnd_bad htg (by decide) hg o029 res29
  rw [hb29] at hx
  rw [if_neg (by rw [hx]; decide)] at htg
  refine (rzfunction_spec h29 hb).mono ?_
  rintro _ w31 ⟨rfl, s31⟩
  have h31 := h29.still s31
  have res31 := res29.still s31
  have o031 := o029.tr s31.only
  have hl31 := res31.lt
  refine .inl ⟨_, rfl, bsel_of (fun hf => ?_) (fun hf => ?_)⟩
  · rw [if_pos hf] at htg
    obtain ⟨x, y, z, r, rfl⟩ := funcB_form hf
    refine (rzdefine_of (by omega) hc h31 hb).mono ?_
    rintro e32 w32 hp
    obtain ⟨o, x, pw, cw, pa, ca, pr, cr, po, co, pk, ck, er, rfl, hnd, hm⟩ := hp.res
    rw [← htg] at hm
    have hfin := tEnd_of hm hg (o031.tr o) (res31.mod o (by omega)) (hnd.mono fun k hk => ⟨by have := hk.1; omega, hk.2⟩)
    exact .inl ⟨_, _, _, _, _, _, _, _, _, _, _, _, _, _, _, _, _, _, _, rfl, hfin⟩
  · rw [if_neg (by rw [hf]; decide)] at htg
    refine (rzsimple_of h31 hb).mono ?_
    rintro e34 w34 hp
    obtain ⟨o, x, pw, cw, pa, ca, pr, cr, po, co, pk, ck, er, rfl, hnd, hm⟩ := hp.res
    rw [← htg] at hm
    have hfin := tEnd_of hm hg (o031.tr o) (res31.mod o (by omega)) (hnd.mono fun k hk => ⟨by have := hk.1; omega, hk.2⟩)
    exact .inl ⟨_, _, _, _, _, _, _, _, _, _, _, _, _, _, _, _, _, _, _, rfl, hfin⟩
theorem rz_levels : ∀ L, L ≤ 30 → RCmdS L ∧ RBrS L
  | 0, _ => ⟨rzcmd_zero, fun w g s h hb h0 => absurd rfl h0⟩
  | L + 1, hL => by
    obtain ⟨h1, h2⟩ := rz_levels L (by omega)
    exact ⟨rzcmd_step (by omega) h1 h2, fun w g s h hb _ => (rzbranch5_of (by omega) h1 h2 h hb).mono fun e w' hp => hp.1⟩
theorem ref_parse_spec (s : Txt) : Calls Tryz.prog fn_ref09_Parse #[.string (S s)] w (Parsed w (parseR s)) := by
  refine ref09_Parse_calls _ _ _ ?_
  refine allocK fun w1 r1 s1 z1 => (ref_tokens_spec s).mono ?_
  rintro _ w2 ⟨p, C, rfl, ho, s2⟩
  have res2 : Row w2 w.heap.size 31 ⟨zcell⟩ := r1.still s2
  have hz2 := s2.size
  have fin : ∀ {w' : World} {x : Nd} {er : Int} {cs : List Value}, Row w' w.heap.size 31 ⟨zcell⟩ → NdE w' (fun k => w.heap.size < k ∧ k < w'.heap.size) x cs → Still w w' → parseR s = (x, er) → ∀ {vw va vr vo vk}, cs = ncell x vw va vr vo vk → stCells (Addr.mk w.heap.size 0 none) (TEnd w.heap.size er (Parsed w (parseR s))) 0 cs w' := by
    intro w' x er cs hres hn hs hp vw va vr vo vk hcs
    obtain ⟨pw, cw, pa, ca, pr, cr, po, co, pk, ck, rfl, _⟩ := hn.outs
    have hl := hres.lt
    rw [hp]
    refine stK hres (by simp) (by simp [Value.oneCell']) fun w3 r3 m3 z3 => ⟨_, _, _, _, _, _, _, _, _, _, _, _, _, _, _, _, _, _, r3.lget rfl, r3.lget rfl, r3.lget rfl, r3.lget rfl, r3.lget rfl, r3.lget rfl, r3.lget rfl, r3.lget rfl, _, rfl, ?_, ?_⟩
    · exact (hn.mod m3 fun k hk (e : k = w.heap.size) => by have := hk.1; omega).mono fun k hk => ⟨by have := hk.1; omega, by have := hk.2; omega⟩
    · exact Mod.trans hs m3 (fun _ h => h) (fun i hi e => by omega)
  refine .inl ⟨_, _, _, _, rfl, bsel_of (fun hx => ?_) (fun hx => ?_)⟩
  · have hne : (tokRes s).2 ≠ 0 := nt hx
    have hp : parseR s = (nd0, (tokRes s).2) := by unfold parseR; rw [if_neg hne]
    have hfin := fin (x := nd0) (er := (tokRes s).2) res2 (zero_nde _ _) (s1.trans s2) hp rfl
    rw [hp] at hfin ⊢
    exact hfin
  have he0 : (tokRes s).2 = 0 := nf hx
  have hp : parseR s = match scriptF (tokRes s).1 with
      | .ok x => (x, 0)
      | .bad k => (nd0, (k : Int)) := by unfold parseR; rw [if_pos he0]; cases scriptF (tokRes s).1 <;> rfl
  have hb := tokRes_tb s
  have hat := (toks_at ⟨_, _, rfl⟩ ho)
  generalize (tokRes s).1 = ts at *
  refine allocK fun w4 r4 s4 z4 => ?_
  have h4 : Rz w4 w2.heap.size ts := by
    refine ⟨ts, p, C, 0, rfl, Nat.zero_le _, hb.1, r4, hat.turn (fun k hk => hk.2) fun a v _ hcell => s4.cell hcell⟩
  have hl := rzlist_of (L := 30) (rz_levels 30 (Nat.le_refl _)).1 h4 hb true
  rw [listE_true] at hl
  have e1 : (31 - ((30 : Nat) : Int)) = 1 := by decide
  rw [e1] at hl
  refine hl.mono ?_
  rintro e5 w5 hpz
  obtain ⟨o5, x, pw, cw, pa, ca, pr, cr, po, co, pk, ck, er, rfl, hnd, hm⟩ := hpz.res
  have hz5 := o5.size
  have res5 := (res2.still s4).mod o5 (by omega)
  have s05 : Still w w5 := Mod.trans ((s1.trans s2).trans s4) o5 (fun _ h => h) (fun i hi (e : i = w2.heap.size) => by omega)
  have hsf : scriptF ts = (listF (lvS 30).1 ts).and fun x => if x.2 = [] then .ok x.1 else .bad 100 := rfl
  rw [hsf] at hp
  clear hsf
  refine .inl ⟨_, _, _, _, _, _, _, _, _, _, _, _, _, _, _, _, _, _, _, rfl, boxK rfl (by simp [Value.oneCell']) fun w7 r7 s7 z7 => ?_⟩
  have s07 := s05.trans s7
  have res7 := res5.still s7
  have sD := drew_still w7
  have hnd7 : NdE w7.drew (fun k => w.heap.size < k ∧ k < w7.drew.heap.size) x _ := ((hnd.still s7).still sD).mono fun k hk => ⟨by have := hk.1; omega, by have := hk.2; show k < w7.heap.size; omega⟩
  refine ⟨fun ex w9 => w9 = w7.drew ∧ ((ex = 0 ∧ parseR s = (x, 0)) ∨ (ex ≠ 0 ∧ parseR s = (nd0, ex))), ⟨fun b w8 => w8 = w7.drew ∧ ((b = true ∧ parseR s = (nd0, 100)) ∨ (b = false ∧ ((er = 0 ∧ parseR s = (x, 0)) ∨ (er ≠ 0 ∧ parseR s = (nd0, er))))), bsel_of (fun h0 => ?_) (fun h0 => ?_), ?_⟩, ?_⟩
  · have h0 := of_decide_eq_true h0
    rcases hm.still s7 with ⟨_, s9, h9, ht⟩ | ⟨k, hk, e, ht⟩
    rotate_left
    · omega
    rw [ht, Rs.ok_and] at hp
    dsimp only at hp
    obtain ⟨all, a, c, n, hs9, hn, hl9, hr9, _⟩ := h9
    refine ⟨_, hr9.lget rfl, _, _, _, hr9.lget rfl, rfl, ?_⟩
    have hlen := congrArg List.length hs9
    rw [List.length_drop] at hlen
    by_cases h9 : s9 = []
    · rw [if_pos h9] at hp
      have : ¬ ((n : Int) < (all.length : Int)) := by rw [h9] at hlen; simp only [List.length_nil] at hlen; omega
      exact .inr ⟨decide_eq_false this, .inl ⟨h0, hp⟩⟩
    · rw [if_neg h9] at hp
      have h0l : 0 < s9.length := List.length_pos_iff.2 h9
      exact .inl ⟨decide_eq_true (by omega), hp⟩
  · have h0 := of_decide_eq_false h0
    rcases hm with ⟨e, _⟩ | ⟨k, hk, e, ht⟩
    · exact absurd e h0
    rw [ht] at hp
    exact ⟨rfl, .inr ⟨rfl, .inr ⟨h0, by rw [hp, e]; rfl⟩⟩⟩
  · rintro b _ w8 ⟨rfl, hb8⟩
    refine bsel_of (fun hbt => ?_) (fun hbf => ?_)
    · rcases hb8 with ⟨_, h⟩ | ⟨e, _⟩
      · exact ⟨rfl, .inr ⟨by decide, h⟩⟩
      · rw [hbt] at e
        cases e
    · rcases hb8 with ⟨e, _⟩ | ⟨_, h⟩
      · rw [hbf] at e
        cases e
      · exact ⟨rfl, h⟩
  rintro ex _ w9 ⟨rfl, hex⟩
  refine bsel_of (fun hbad => ?_) (fun hok => ?_)
  · have hne : ex ≠ 0 := nt hbad
    rcases hex with ⟨e, _⟩ | ⟨_, hpe⟩
    · exact absurd e hne
    exact fin (x := nd0) (er := ex) (res7.still sD) (zero_nde _ _) (s07.trans sD) hpe rfl
  · have h0 : ex = 0 := nf hok
    rcases hex with ⟨_, hpe⟩ | ⟨e, _⟩
    rotate_left
    · exact absurd h0 e
    have r7 := r7.still sD
    have hfin := fin (x := x) (er := 0) (res7.still sD) hnd7 (s07.trans sD) hpe rfl
    exact ⟨_, _, _, _, _, _, _, _, _, _, _, _, _, _, _, _, _, _, r7.lget rfl, r7.lget rfl, r7.lget rfl, r7.lget rfl, r7.lget rfl, r7.lget rfl, r7.lget rfl, r7.lget rfl, hfin⟩
theorem ph_len : ∀ x ∈ ph09, x.length ≤ 40 := by decide
theorem ref_got (s : Txt) : Calls Tryz.prog fn_ref09_Parse #[.string (S s)] w (GotN w (parseR s).1 fun v => .tuple #[v, .int .i64 (parseR s).2]) := by
  refine (ref_parse_spec s).mono ?_
  rintro _ w1 ⟨cs, rfl, hn, s1⟩
  obtain ⟨pw, cw, pa, ca, pr, cr, po, co, pk, ck, rfl, _⟩ := hn.outs
  exact ⟨pw, cw, pa, ca, pr, cr, po, co, pk, ck, rfl, hn, s1⟩
theorem SyntaxPhrases_spec {l : Option Addr} {lL lC : Nat} {vs : List Nat} (hl : U8At w l lL vs) : Calls Tryz.prog fn_law09_SyntaxPhrases #[.slice l lL lC] w (fun e w' => e = .returned (.bool true) ∧ Still w w') := by
  refine law09_SyntaxPhrases_calls _ _ _ _ _ ?_
  refine Phrases_spec.mono ?_
  rintro _ w1 ⟨q, rfl, hq, s1⟩
  refine .inl ⟨_, _, _, rfl, (pieces_spec (sg := ph09) (hl.still s1) hq (by decide) (by decide) (fun x hx => Nat.le_trans (ph_len x hx) (by decide))).mono ?_⟩
  generalize piecesR ph09 vs = s at *
  rintro _ w2 ⟨rfl, rfl⟩
  refine .inl ⟨_, rfl, (parse_got s).mono ?_⟩
  rintro _ w3 ⟨pw3, cw3, pa3, ca3, pr3, cr3, po3, co3, pk3, ck3, rfl, n3, s3⟩
  refine .inl ⟨_, _, _, _, _, _, _, _, _, _, _, _, _, _, _, _, _, _, _, rfl, boxK rfl (by simp [Value.oneCell']) fun w5 r5 s5 z5 => (ref_got s).mono ?_⟩
  rintro _ w6 ⟨pw6, cw6, pa6, ca6, pr6, cr6, po6, co6, pk6, ck6, rfl, n6, s6⟩
  refine .inl ⟨_, _, _, _, _, _, _, _, _, _, _, _, _, _, _, _, _, _, _, rfl, boxK rfl (by simp [Value.oneCell']) fun w8 r8 s8 z8 => awake_spec.mono ?_⟩
  rintro _ w9 ⟨rfl, s9⟩
  have r5 := ((r5.still s6).still s8).still s9
  have r8 := r8.still s9
  have n3 := (((n3.still s5).still s6).still s8).still s9
  have n6 := (n6.still s8).still s9
  have hwt := parseR_wt s
  refine .inl ⟨_, rfl, bsel_of (fun _ => ?_) (fun h => by cases h)⟩
  refine ⟨_, _, _, _, _, _, _, _, _, _, _, _, _, _, _, _, _, _, r5.lget rfl, r5.lget rfl, r5.lget rfl, r5.lget rfl, r5.lget rfl, r5.lget rfl, r5.lget rfl, r5.lget rfl, _, _, _, _, _, _, _, _, _, _, _, _, _, _, _, _, _, _, r8.lget rfl, r8.lget rfl, r8.lget rfl, r8.lget rfl, r8.lget rfl, r8.lget rfl, r8.lget rfl, r8.lget rfl, (sameN_true n3 n6 (by omega)).mono ?_⟩
  rintro _ w10 ⟨rfl, s10⟩
  exact .inl ⟨_, rfl, bsel_of (fun _ => ⟨by rw [decide_eq_true rfl], (((((s1.trans s3).trans s5).trans s6).trans s8).trans s9).trans s10⟩) (fun h => by cases h)⟩
def opens09 : List Txt := [[40, 32], [123, 32], [105, 102, 32, 97, 59, 32, 116, 104, 101, 110, 32], [119, 104, 105, 108, 101, 32, 97, 59, 32, 100, 111, 32], [99, 97, 115, 101, 32, 97, 32, 105, 110, 32, 97, 41, 32], [102, 40, 41, 32, 123, 32], [105, 102, 32, 97, 59, 32, 116, 104, 101, 110, 32, 98, 59, 32, 101, 108, 105, 102, 32, 99, 59, 32, 116, 104, 101, 110, 32]]
def ends09 : List Txt := [[41, 32], [59, 32, 125], [59, 32, 102, 105], [59, 32, 100, 111, 110, 101], [59, 59, 32, 101, 115, 97, 99], [59, 32, 125], [59, 32, 102, 105]]
theorem SyntaxDeep_spec (n : Int) (hn0 : 0 ≤ n) (hn1 : n < 256) (kind : Int) (hk0 : 0 ≤ kind) (hk1 : kind < 256) : Calls Tryz.prog fn_law09_SyntaxDeep #[.int .u8 n, .int .u8 kind] w (fun e w' => e = .returned (.bool true) ∧ Still w w') := by
  obtain ⟨n, rfl⟩ := Int.eq_ofNat_of_zero_le hn0
  obtain ⟨kind, rfl⟩ := Int.eq_ofNat_of_zero_le hk0
  refine law09_SyntaxDeep_calls _ _ _ _ ?_
  have h21 : n % 21 < 21 := Nat.mod_lt _ (by decide)
  have h7 : kind % 7 < 7 := Nat.mod_lt _ (by decide)
  have e7 : IntKind.i64.wrap (20 + Int.tmod (IntKind.i64.wrap (n : Int)) 21) = ((20 + n % 21 : Nat) : Int) := by
    rw [wrap_i64 (n := (n : Int)) (by omega) (by omega), show Int.tmod (n : Int) 21 = ((n % 21 : Nat) : Int) from tmod_nat _ 21, wrap_i64 (by omega) (by omega)]
    omega
  have e8 : Int.tmod (IntKind.i64.wrap (kind : Int)) 7 = ((kind % 7 : Nat) : Int) := by
    rw [wrap_i64 (n := (kind : Int)) (by omega) (by omega), show Int.tmod (kind : Int) 7 = ((kind % 7 : Nat) : Int) from tmod_nat _ 7]
  unfold vc_law09_SyntaxDeep
  rw [e7, e8, Int.toNat_natCast]
  generalize kind % 7 = i at *
  have hm : 20 + n % 21 ≤ 40 := by omega
  generalize 20 + n % 21 = m at *
  refine allocK fun w1 r1 s1 z1 => allocK fun w2 r2 s2 z2 => ?_
  have a1 : StrsAt w2 (some ⟨w.heap.size, 0, none⟩) opens09.length opens09 := StrsAt.row (l := opens09) (r1.still s2)
  have a2 : StrsAt w2 (some ⟨w1.heap.size, 0, none⟩) ends09.length ends09 := StrsAt.row (l := ends09) r2
  have l1 : ∀ x ∈ opens09, x.length ≤ 40 := by decide
  have l2 : ∀ x ∈ ends09, x.length ≤ 40 := by decide
  have s02 := s1.trans s2
  refine ⟨by decide, fun s t i w3 => ∃ k : Nat, i = (k : Int) ∧ k ≤ m ∧ s.length ≤ 40 * k ∧ t.length ≤ 1 + 40 * k ∧ w3 = w2, fun _ _ i _ => m - i.toNat, ⟨0, rfl, Nat.zero_le _, by simp, by simp, rfl⟩, ?_⟩
  rintro s t _ _ w3 ⟨k, rfl, hk, hs, ht, rfl⟩
  refine ⟨by decide, bsel_of (fun hx => ?_) (fun hx => ?_)⟩
  · have hx : k < m := by have := of_decide_eq_true hx; omega
    have e2 : IntKind.i64.wrap ((k : Int) + 1) = ((k + 1 : Nat) : Int) := by rw [wrap_i64 (by omega) (by omega)]; omega
    rw [e2]
    obtain ⟨b1, hb1, c1⟩ := a1.get (k := i) h7
    obtain ⟨b2, hb2, c2⟩ := a2.get (k := i) h7
    obtain rfl := Option.some.inj hb1
    obtain rfl := Option.some.inj hb2
    have m1 := l1 _ (List.getElem_mem (show i < opens09.length from h7))
    have m2 := l2 _ (List.getElem_mem (show i < ends09.length from h7))
    refine ⟨by omega, by omega, _, by rw [Nat.mul_one]; exact c1, by omega, by omega, by omega, _, by rw [Nat.mul_one]; exact c2, by omega, ⟨k + 1, rfl, hx, by rw [List.length_append]; omega, by rw [List.length_append]; omega, rfl⟩, by dsimp only; omega⟩
  · have hlen : s.length + t.length ≤ 9223372036854775807 := by omega
    refine ⟨hlen, (parse_got (s ++ t)).mono ?_⟩
    generalize s ++ t = s at *
    rintro _ w4 ⟨pw3, cw3, pa3, ca3, pr3, cr3, po3, co3, pk3, ck3, rfl, n3, s3⟩
    refine .inl ⟨_, _, _, _, _, _, _, _, _, _, _, _, _, _, _, _, _, _, _, rfl, boxK rfl (by simp [Value.oneCell']) fun w6 r5 s5 z5 => ⟨hlen, (ref_got s).mono ?_⟩⟩
    rintro _ w7 ⟨pw6, cw6, pa6, ca6, pr6, cr6, po6, co6, pk6, ck6, rfl, n6, s6⟩
    refine .inl ⟨_, _, _, _, _, _, _, _, _, _, _, _, _, _, _, _, _, _, _, rfl, boxK rfl (by simp [Value.oneCell']) fun w9 r8 s8 z8 => awake_spec.mono ?_⟩
    rintro _ w10 ⟨rfl, s9⟩
    have r5 := ((r5.still s6).still s8).still s9
    have r8 := r8.still s9
    have n3 := (((n3.still s5).still s6).still s8).still s9
    have n6 := (n6.still s8).still s9
    have hwt := parseR_wt s
    refine .inl ⟨_, rfl, bsel_of (fun _ => ?_) (fun h => by cases h)⟩
    refine ⟨_, _, _, _, _, _, _, _, _, _, _, _, _, _, _, _, _, _, r5.lget rfl, r5.lget rfl, r5.lget rfl, r5.lget rfl, r5.lget rfl, r5.lget rfl, r5.lget rfl, r5.lget rfl, _, _, _, _, _, _, _, _, _, _, _, _, _, _, _, _, _, _, r8.lget rfl, r8.lget rfl, r8.lget rfl, r8.lget rfl, r8.lget rfl, r8.lget rfl, r8.lget rfl, r8.lget rfl, (sameN_true n3 n6 (by omega)).mono ?_⟩
    rintro _ w11 ⟨rfl, s10⟩
    exact .inl ⟨_, rfl, bsel_of (fun _ => ⟨by rw [decide_eq_true rfl], (((((s02.trans s3).trans s5).trans s6).trans s8).trans s9).trans s10⟩) (fun h => by cases h)⟩
end Go.Proofs.YtcoeiiihmpnagaaGreatDoor
