/- Texts of one proof, one behind the other. Conditions: as each theorem names them. -/
import Derived.Test.YthommfjiaalecaaDoorQ8
namespace Go.Proofs.YthommfjiaalecaaDoor
open Go.RowKit Vc
variable {w : World}
theorem compF_suf' {L : Nat} {s : Ts} {T : Rs (Nd × Ts)} (h : compF (lvS L).1 (branchF (lvS L).1 (lvS L).2) s = some T) (y : Nd × Ts) (hy : T = .ok y) : y.2 <:+ s := by
  have h1 := commandF_suf (lvS_suf L).1 (branchF_suf (lvS_suf L).1 (lvS_suf L).2)
  exact compF_suf (lvS_suf L).1 (branchF_suf (lvS_suf L).1 (lvS_suf L).2) h hy
theorem rzcmd_step {L : Nat} (hL : L < 30) (hc : RCmdS L) (hbr : RBrS L) : RCmdS (L + 1) := by
  intro w g s h hb
  refine ref09_parser_command_calls _ _ _ _ ?_
  have hg := h.lt
  have hlv : (lvS (L + 1)).1 s = match compF (lvS L).1 (branchF (lvS L).1 (lvS L).2) s with
    | some x => x.and withR
    | none => if resB s = true then .bad 100 else if funcB s = true then defF (lvS L).1 s else simpleF s := rfl
  rw [hlv]
  clear hlv
  refine allocK fun w1 r1 s1 z1 => bsel_of (fun hx => absurd (of_decide_eq_true hx) (by omega)) (fun _ => boxK rfl (by simp [Value.oneCell']) fun w4 r4 s4 z4 => ?_)
  have s04 := s1.trans s4
  have h4 := h.still s04
  have res4 : Row w4 w.heap.size 32 ⟨zcell⟩ := r1.still s4
  have hgn : w.heap.size + 1 ≤ w1.heap.size := by omega
  have hgl := r4.lt
  generalize w1.heap.size = gn at *
  generalize htg : (match compF (lvS L).1 (branchF (lvS L).1 (lvS L).2) s with
    | some x => x.and withR
    | none => if resB s = true then .bad 100 else if funcB s = true then defF (lvS L).1 s else simpleF s) = target
  have hT := fun T h => compF_suf' (L := L) (s := s) (T := T) h
  have key : ∀ T, compF (lvS L).1 (branchF (lvS L).1 (lvS L).2) s = some T → target = T.and withR := fun T hT => by rw [← htg, hT]
  have none_ : compF (lvS L).1 (branchF (lvS L).1 (lvS L).2) s = none → target = if resB s = true then .bad 100 else if funcB s = true then defF (lvS L).1 s else simpleF s := fun hn => by rw [← htg, hn]
  clear htg
  refine ⟨fun ex w36 => ∃ T, target = T.and withR ∧ CmdK w g gn s T ex w36, ?_, ?_⟩
  rotate_left
  · rintro ex _ w36 ⟨T, rfl, hk⟩
    exact rzredirs_of hb hgn hg hk
  have suf := tail_suf s
  refine (rztake_spec h4 1 tOpen).mono ?_
  rintro _ w5 ⟨rfl, o5, h5⟩
  have r5 := r4.mod o5 (by omega)
  have res5 := res4.mod o5 (by omega)
  have o05 := s04.only.tr o5
  refine .inl ⟨_, rfl, bsel_of (fun x1 => ?_) (fun x1 => ?_)⟩
  · have e : compF (lvS L).1 (branchF (lvS L).1 (lvS L).2) s = some (insideF (lvS L).1 5 1 tShut s.tail) := by unfold compF; rw [if_pos x1]
    refine (rzinside5_of (by omega) hc (h5.ite' x1) (hb.suf suf) 5 1 tShut).mono ?_
    rintro e6 w6 hp
    exact storeK_of hp r5.lt (by omega) r5 res5 hg o05 (fun y hy => hT _ e y hy) fun er w7 hk => ⟨_, key _ e, hk⟩
  replace h5 := h5.ite x1
  refine (rztake_spec h5 0 tBrace).mono ?_
  rintro _ w8 ⟨rfl, o8, h8⟩
  have r8 := r5.mod o8 (by omega)
  have res8 := res5.mod o8 (by omega)
  have o08 := o05.tr o8
  refine .inl ⟨_, rfl, bsel_of (fun x2 => ?_) (fun x2 => ?_)⟩
  · have e : compF (lvS L).1 (branchF (lvS L).1 (lvS L).2) s = some (insideF (lvS L).1 4 0 tEcarb s.tail) := by unfold compF; rw [if_neg (by rw [x1]; decide), if_pos x2]
    refine (rzinside5_of (by omega) hc (h8.ite' x2) (hb.suf suf) 4 0 tEcarb).mono ?_
    rintro e6 w6 hp
    exact storeK_of hp r8.lt (by omega) r8 res8 hg o08 (fun y hy => hT _ e y hy) fun er w7 hk => ⟨_, key _ e, hk⟩
  replace h8 := h8.ite x2
  refine (rztake_spec h8 0 tIf).mono ?_
  rintro _ w11 ⟨rfl, o11, h11⟩
  have r11 := r8.mod o11 (by omega)
  have res11 := res8.mod o11 (by omega)
  have o011 := o08.tr o11
  refine .inl ⟨_, rfl, bsel_of (fun x3 => ?_) (fun x3 => ?_)⟩
  · have e : compF (lvS L).1 (branchF (lvS L).1 (lvS L).2) s = some ((branchF (lvS L).1 (lvS L).2 s.tail).and (tookF 0 tFi)) := by unfold compF; rw [if_neg (by rw [x1]; decide), if_neg (by rw [x2]; decide), if_pos x3]
    refine (rzbranch5_of (by omega) hc hbr (h11.ite' x3) (hb.suf suf)).mono ?_
    rintro e12 w12 hp
    have hbsuf := branchF_suf (lvS_suf L).1 (lvS_suf L).2
    refine storeK_of (s := s) hp r11.lt (by omega) r11 res11 hg o011 (fun y hy => (hbsuf _ _ hy).trans suf) fun er w13 hk => ?_
    obtain ⟨x, vw, va, vo, vk, hr, hn, hrs, ho, hres, hm, hTs⟩ := hk
    generalize branchF (lvS L).1 (lvS L).2 s.tail = T0 at *
    have hgl13 := hr.lt
    refine ⟨fun b w15 => Only g w13 w15 ∧ ((b = true ∧ er = 0 ∧ T0.and (tookF 0 tFi) = .bad 100) ∨ (b = false ∧ Res g (T0.and (tookF 0 tFi)) x er w15)), bsel_of (fun h0 => ?_) (fun h0 => ?_), ?_⟩
    · have h0 := of_decide_eq_true h0
      rcases hm with ⟨_, s9, h9, ht⟩ | ⟨k, hk, e, ht⟩
      rotate_left
      · omega
      refine (rztake_spec h9 0 tFi).mono ?_
      rintro _ w14 ⟨rfl, o14, h14⟩
      refine .inl ⟨_, rfl, o14, ?_⟩
      rw [ht, Rs.ok_and]
      unfold tookF
      cases hy : isT 0 tFi s9 with
      | true =>
        rw [if_pos hy] at h14
        rw [if_pos rfl]
        exact .inr ⟨rfl, .inl ⟨h0, _, h14, rfl⟩⟩
      | false =>
        rw [if_neg (by decide)]
        exact .inl ⟨rfl, h0, rfl⟩
    · have h0 := of_decide_eq_false h0
      rcases hm with ⟨e, _⟩ | ⟨k, hk, e, ht⟩
      · exact absurd e h0
      rw [ht]
      exact ⟨(Still.refl _).only, .inr ⟨rfl, .inr ⟨k, hk, e, rfl⟩⟩⟩
    · rintro b _ w15 ⟨o15, hb15⟩
      have hz15 := o15.size
      have st : ∀ (ex : Int), Res g (T0.and (tookF 0 tFi)) x ex w15 → ∃ T, target = T.and withR ∧ CmdK w g gn s T ex w15 := fun ex hres15 => ⟨_, key _ e, x, vw, va, vo, vk, hr.mod o15 (by omega), (hn.mod o15 fun k hk (e : k = g) => by have := hk.1; omega).mono fun k hk => ⟨hk.1, by have := hk.2.1; omega, hk.2.2⟩, hrs, ho.tr o15, hres.mod o15 (by omega), hres15, fun y hy => hT _ e y hy⟩
      refine bsel_of (fun hbt => ?_) (fun hbf => ?_)
      · rcases hb15 with ⟨_, _, ht⟩ | ⟨e, _⟩
        · exact st 100 (.inr ⟨100, by decide, rfl, ht⟩)
        · rw [hbt] at e
          cases e
      · rcases hb15 with ⟨e, _⟩ | ⟨_, hr15⟩
        · rw [hbf] at e
          cases e
        · exact st er hr15
  replace h11 := h11.ite x3
  refine ⟨fun b w18 => Still w11 w18 ∧ b = (isT 0 tWhile s || isT 0 tUntil s), (rzis_spec h11 0 tWhile).mono ?_, ?_⟩
  · rintro _ w16 ⟨rfl, s16⟩
    refine .inl ⟨_, rfl, bsel_of (fun hx => ⟨s16, by rw [hx]; rfl⟩) (fun hx => (rzis_spec (h11.still s16) 0 tUntil).mono ?_)⟩
    rintro _ w17 ⟨rfl, s17⟩
    exact .inl ⟨_, rfl, s16.trans s17, by rw [hx]; rfl⟩
  rintro b _ w18 ⟨s18, hb18⟩
  have r18 := r11.still s18
  have res18 := res11.still s18
  have o018 := o011.tr s18.only
  have h18 := h11.still s18
  refine bsel_of (fun hx => ?_) (fun hx => ?_)
  · rw [hb18] at hx
    by_cases x4 : isT 0 tWhile s = true
    · have e : compF (lvS L).1 (branchF (lvS L).1 (lvS L).2) s = some (loopSF (lvS L).1 tWhile s.tail) := by unfold compF; rw [if_neg (by rw [x1]; decide), if_neg (by rw [x2]; decide), if_neg (by rw [x3]; decide), if_pos x4]
      have h18' := h18
      have hb' := hb
      rw [isT_cons x4] at h18' hb'
      refine (rzloop5_of (by omega) hc h18' hb').mono ?_
      rintro e19 w19 hp
      exact storeK_of hp r18.lt (by omega) r18 res18 hg o018 (fun y hy => hT _ e y hy) fun er w7 hk => ⟨_, key _ e, hk⟩
    · have x4 : isT 0 tWhile s = false := by simpa using x4
      have x5 : isT 0 tUntil s = true := by rw [x4, Bool.false_or] at hx; exact hx
      have e : compF (lvS L).1 (branchF (lvS L).1 (lvS L).2) s = some (loopSF (lvS L).1 tUntil s.tail) := by unfold compF; rw [if_neg (by rw [x1]; decide), if_neg (by rw [x2]; decide), if_neg (by rw [x3]; decide), if_neg (by rw [x4]; decide), if_pos x5]
      have h18' := h18
      have hb' := hb
      rw [isT_cons x5] at h18' hb'
      refine (rzloop5_of (by omega) hc h18' hb').mono ?_
      rintro e19 w19 hp
      exact storeK_of hp r18.lt (by omega) r18 res18 hg o018 (fun y hy => hT _ e y hy) fun er w7 hk => ⟨_, key _ e, hk⟩
  rw [hb18] at hx
  obtain ⟨x4, x5⟩ := Bool.or_eq_false_iff.1 hx
  refine (rztake_spec h18 0 tFor).mono ?_
  rintro _ w21 ⟨rfl, o21, h21⟩
  have r21 := r18.mod o21 (by omega)
  have res21 := res18.mod o21 (by omega)
  have o021 := o018.tr o21
  refine .inl ⟨_, rfl, bsel_of (fun x6 => ?_) (fun x6 => ?_)⟩
  · have e : compF (lvS L).1 (branchF (lvS L).1 (lvS L).2) s = some (eachF (lvS L).1 s.tail) := by unfold compF; rw [if_neg (by rw [x1]; decide), if_neg (by rw [x2]; decide), if_neg (by rw [x3]; decide), if_neg (by rw [x4]; decide), if_neg (by rw [x5]; decide), if_pos x6]
    refine (rzeach_of (by omega) hc (h21.ite' x6) (hb.suf suf)).mono ?_
    rintro e22 w22 hp
    exact storeK_of hp r21.lt (by omega) r21 res21 hg o021 (fun y hy => hT _ e y hy) fun er w7 hk => ⟨_, key _ e, hk⟩
  replace h21 := h21.ite x6
  refine (rztake_spec h21 0 tCase).mono ?_
  rintro _ w24 ⟨rfl, o24, h24⟩
  have r24 := r21.mod o24 (by omega)
  have res24 := res21.mod o24 (by omega)
  have o024 := o021.tr o24
  refine .inl ⟨_, rfl, bsel_of (fun x7 => ?_) (fun x7 => ?_)⟩
  · have e : compF (lvS L).1 (branchF (lvS L).1 (lvS L).2) s = some (casesF (lvS L).1 s.tail) := by unfold compF; rw [if_neg (by rw [x1]; decide), if_neg (by rw [x2]; decide), if_neg (by rw [x3]; decide), if_neg (by rw [x4]; decide), if_neg (by rw [x5]; decide), if_neg (by rw [x6]; decide), if_pos x7]
    refine (rzcases_of (by omega) hc (h24.ite' x7) (hb.suf suf)).mono ?_
    rintro e25 w25 hp
    exact storeK_of hp r24.lt (by omega) r24 res24 hg o024 (fun y hy => hT _ e y hy) fun er w7 hk => ⟨_, key _ e, hk⟩
  replace h24 := h24.ite x7
  have e : compF (lvS L).1 (branchF (lvS L).1 (lvS L).2) s = none := by unfold compF; rw [if_neg (by rw [x1]; decide), if_neg (by rw [x2]; decide), if_neg (by rw [x3]; decide), if_neg (by rw [x4]; decide), if_neg (by rw [x5]; decide), if_neg (by rw [x6]; decide), if_neg (by rw [x7]; decide)]
  have htg := none_ e
  clear key none_ e hT
  refine ⟨fun b w29 => Still w24 w29 ∧ b = resB s, ⟨fun wq => Still w24 wq, drew_still w24, (rzword_spec (h24.still (drew_still w24))).mono ?_⟩, ?_⟩
  · rintro _ w27 ⟨rfl, s27⟩
    have s2427 := (drew_still w24).trans s27
    refine .inl ⟨_, rfl, s2427, bsel_of (fun hx => ?_) (fun hx => ⟨s2427, ?_⟩)⟩
    · obtain ⟨t, r, rfl⟩ : ∃ t r, s = (0, t) :: r := by
        match s, hx with
        | (k, t) :: r, hx => exact ⟨t, r, by rw [show k = 0 from of_decide_eq_true hx]⟩
      obtain ⟨LL, cc, n, bb, hn, hl, _, hs⟩ := h24.at
      refine ⟨some bb, LL, cc, fun wq hq => (hs wq hq).1, n, fun wq hq => (hs wq hq).2.1, by omega, by omega, t, fun wq hq => (hs wq hq).2.2.2.2, (rzreserved_spec t).mono ?_⟩
      rintro _ w28 ⟨rfl, rfl⟩
      exact .inl ⟨_, rfl, s2427, rfl⟩
    · match s, hx with
      | [], _ => rfl
      | (k, t) :: r, hx =>
        have hk : decide (k = 0) = false := hx
        show false = (decide (k = 0) && (closL.contains t || decide (t = tBang)))
        rw [hk]
        rfl
  rintro b _ w29 ⟨s29, hb29⟩
  have h29 := h24.still s29
  have res29 := res24.still s29
  have o029 := o024.tr s29.only
  refine bsel_of (fun hx => ?_) (fun hx => ?_)
  · rw [hb29] at hx
    rw [if_pos hx] at htg
    exact tEnd_bad htg (by decide) hg o029 res29
  rw [hb29] at hx
  rw [if_neg (by rw [hx]; decide)] at htg
  refine (rzfunction_spec h29 hb).mono ?_
  rintro _ w31 ⟨rfl, s31⟩
  have h31 := h29.still s31
  have res31 := res29.still s31
  have o031 := o029.tr s31.only
  have hl31 := res31.lt
  refine .inl ⟨_, rfl, bsel_of (fun hf => ?_) (fun hf => ?_)⟩
  · rw [if_pos hf] at htg
    obtain ⟨x, y, z, r, rfl⟩ := funcB_form hf
    refine (rzdefine_of (by omega) hc h31 hb).mono ?_
    rintro e32 w32 hp
    obtain ⟨o, x, pw, cw, pa, ca, pr, cr, po, co, pk, ck, er, rfl, hnd, hm⟩ := hp.res
    rw [← htg] at hm
    have hfin := tEnd_of hm hg (o031.tr o) (res31.mod o (by omega)) (hnd.mono fun k hk => ⟨by have := hk.1; omega, hk.2⟩)
    exact .inl ⟨_, _, _, _, _, _, _, _, _, _, _, _, _, _, _, _, _, _, _, rfl, hfin⟩
  · rw [if_neg (by rw [hf]; decide)] at htg
    refine (rzsimple_of h31 hb).mono ?_
    rintro e34 w34 hp
    obtain ⟨o, x, pw, cw, pa, ca, pr, cr, po, co, pk, ck, er, rfl, hnd, hm⟩ := hp.res
    rw [← htg] at hm
    have hfin := tEnd_of hm hg (o031.tr o) (res31.mod o (by omega)) (hnd.mono fun k hk => ⟨by have := hk.1; omega, hk.2⟩)
    exact .inl ⟨_, _, _, _, _, _, _, _, _, _, _, _, _, _, _, _, _, _, _, rfl, hfin⟩
theorem rz_levels : ∀ L, L ≤ 30 → RCmdS L ∧ RBrS L
  | 0, _ => ⟨rzcmd_zero, fun w g s h hb h0 => absurd rfl h0⟩
  | L + 1, hL => by
    obtain ⟨h1, h2⟩ := rz_levels L (by omega)
    exact ⟨rzcmd_step (by omega) h1 h2, fun w g s h hb _ => (rzbranch5_of (by omega) h1 h2 h hb).mono fun e w' hp => hp.1⟩
theorem ref_parse_spec (s : Txt) : Calls Tryd.prog fn_ref09_Parse #[.string (S s)] w (Parsed w (parseR s)) := by
  refine ref09_Parse_calls _ _ _ ?_
  refine allocK fun w1 r1 s1 z1 => (ref_tokens_spec s).mono ?_
  rintro _ w2 ⟨p, C, rfl, ho, s2⟩
  have res2 : Row w2 w.heap.size 32 ⟨zcell⟩ := r1.still s2
  have hz2 := s2.size
  have fin : ∀ {w' : World} {x : Nd} {er : Int} {cs : List Value}, Row w' w.heap.size 32 ⟨zcell⟩ → NdE w' (fun k => w.heap.size < k ∧ k < w'.heap.size) x cs → Still w w' → parseR s = (x, er) → ∀ {vw va vr vo vk}, cs = ncell x vw va vr vo vk → stCells (Addr.mk w.heap.size 0 none) (TEnd w.heap.size er (Parsed w (parseR s))) 0 cs w' := by
    intro w' x er cs hres hn hs hp vw va vr vo vk hcs
    obtain ⟨pw, cw, pa, ca, pr, cr, po, co, pk, ck, rfl, _⟩ := hn.outs
    have hl := hres.lt
    rw [hp]
    refine stK hres (by simp) (by simp [Value.oneCell']) fun w3 r3 m3 z3 => ⟨_, _, _, _, _, _, _, _, _, _, _, _, _, _, _, _, _, _, r3.lget rfl, r3.lget rfl, r3.lget rfl, r3.lget rfl, r3.lget rfl, r3.lget rfl, r3.lget rfl, r3.lget rfl, _, rfl, ?_, ?_⟩
    · exact (hn.mod m3 fun k hk (e : k = w.heap.size) => by have := hk.1; omega).mono fun k hk => ⟨by have := hk.1; omega, by have := hk.2; omega⟩
    · exact Mod.trans hs m3 (fun _ h => h) (fun i hi e => by omega)
  refine .inl ⟨_, _, _, _, rfl, bsel_of (fun hx => ?_) (fun hx => ?_)⟩
  · have hne : (tokRes s).2 ≠ 0 := nt hx
    have hp : parseR s = (nd0, (tokRes s).2) := by unfold parseR; rw [if_neg hne]
    have hfin := fin (x := nd0) (er := (tokRes s).2) res2 (zero_nde _ _) (s1.trans s2) hp rfl
    rw [hp] at hfin ⊢
    exact hfin
  have he0 : (tokRes s).2 = 0 := nf hx
  have hp : parseR s = match scriptF (tokRes s).1 with
      | .ok x => (x, 0)
      | .bad k => (nd0, (k : Int)) := by unfold parseR; rw [if_pos he0]; cases scriptF (tokRes s).1 <;> rfl
  have hb := tokRes_tb s
  have hat := (toks_at ⟨_, _, rfl⟩ ho)
  generalize (tokRes s).1 = ts at *
  refine allocK fun w4 r4 s4 z4 => ?_
  have h4 : Rz w4 w2.heap.size ts := by
    refine ⟨ts, p, C, 0, rfl, Nat.zero_le _, hb.1, r4, hat.turn (fun k hk => hk.2) fun a v _ hcell => s4.cell hcell⟩
  have hl := rzlist_of (L := 30) (rz_levels 30 (Nat.le_refl _)).1 h4 hb true
  rw [listE_true] at hl
  have e1 : (31 - ((30 : Nat) : Int)) = 1 := by decide
  rw [e1] at hl
  refine hl.mono ?_
  rintro e5 w5 hpz
  obtain ⟨o5, x, pw, cw, pa, ca, pr, cr, po, co, pk, ck, er, rfl, hnd, hm⟩ := hpz.res
  have hz5 := o5.size
  have res5 := (res2.still s4).mod o5 (by omega)
  have s05 : Still w w5 := Mod.trans ((s1.trans s2).trans s4) o5 (fun _ h => h) (fun i hi (e : i = w2.heap.size) => by omega)
  have hsf : scriptF ts = (listF (lvS 30).1 ts).and fun x => if x.2 = [] then .ok x.1 else .bad 100 := rfl
  rw [hsf] at hp
  clear hsf
  refine .inl ⟨_, _, _, _, _, _, _, _, _, _, _, _, _, _, _, _, _, _, _, rfl, boxK rfl (by simp [Value.oneCell']) fun w7 r7 s7 z7 => ?_⟩
  have s07 := s05.trans s7
  have res7 := res5.still s7
  have sD := drew_still w7
  have hnd7 : NdE w7.drew (fun k => w.heap.size < k ∧ k < w7.drew.heap.size) x _ := ((hnd.still s7).still sD).mono fun k hk => ⟨by have := hk.1; omega, by have := hk.2; show k < w7.heap.size; omega⟩
  refine ⟨fun ex w9 => w9 = w7.drew ∧ ((ex = 0 ∧ parseR s = (x, 0)) ∨ (ex ≠ 0 ∧ parseR s = (nd0, ex))), ⟨fun b w8 => w8 = w7.drew ∧ ((b = true ∧ parseR s = (nd0, 100)) ∨ (b = false ∧ ((er = 0 ∧ parseR s = (x, 0)) ∨ (er ≠ 0 ∧ parseR s = (nd0, er))))), bsel_of (fun h0 => ?_) (fun h0 => ?_), ?_⟩, ?_⟩
  · have h0 := of_decide_eq_true h0
    rcases hm.still s7 with ⟨_, s9, h9, ht⟩ | ⟨k, hk, e, ht⟩
    rotate_left
    · omega
    rw [ht, Rs.ok_and] at hp
    dsimp only at hp
    obtain ⟨all, a, c, n, hs9, hn, hl9, hr9, _⟩ := h9
    refine ⟨_, hr9.lget rfl, _, _, _, hr9.lget rfl, rfl, ?_⟩
    have hlen := congrArg List.length hs9
    rw [List.length_drop] at hlen
    by_cases h9 : s9 = []
    · rw [if_pos h9] at hp
      have : ¬ ((n : Int) < (all.length : Int)) := by rw [h9] at hlen; simp only [List.length_nil] at hlen; omega
      exact .inr ⟨decide_eq_false this, .inl ⟨h0, hp⟩⟩
    · rw [if_neg h9] at hp
      have h0l : 0 < s9.length := List.length_pos_iff.2 h9
      exact .inl ⟨decide_eq_true (by omega), hp⟩
  · have h0 := of_decide_eq_false h0
    rcases hm with ⟨e, _⟩ | ⟨k, hk, e, ht⟩
    · exact absurd e h0
    rw [ht] at hp
    exact ⟨rfl, .inr ⟨rfl, .inr ⟨h0, by rw [hp, e]; rfl⟩⟩⟩
  · rintro b _ w8 ⟨rfl, hb8⟩
    refine bsel_of (fun hbt => ?_) (fun hbf => ?_)
    · rcases hb8 with ⟨_, h⟩ | ⟨e, _⟩
      · exact ⟨rfl, .inr ⟨by decide, h⟩⟩
      · rw [hbt] at e
        cases e
    · rcases hb8 with ⟨e, _⟩ | ⟨_, h⟩
      · rw [hbf] at e
        cases e
      · exact ⟨rfl, h⟩
  rintro ex _ w9 ⟨rfl, hex⟩
  refine bsel_of (fun hbad => ?_) (fun hok => ?_)
  · have hne : ex ≠ 0 := nt hbad
    rcases hex with ⟨e, _⟩ | ⟨_, hpe⟩
    · exact absurd e hne
    exact fin (x := nd0) (er := ex) (res7.still sD) (zero_nde _ _) (s07.trans sD) hpe rfl
  · have h0 : ex = 0 := nf hok
    rcases hex with ⟨_, hpe⟩ | ⟨e, _⟩
    rotate_left
    · exact absurd h0 e
    have r7 := r7.still sD
    have hfin := fin (x := x) (er := 0) (res7.still sD) hnd7 (s07.trans sD) hpe rfl
    exact ⟨_, _, _, _, _, _, _, _, _, _, _, _, _, _, _, _, _, _, r7.lget rfl, r7.lget rfl, r7.lget rfl, r7.lget rfl, r7.lget rfl, r7.lget rfl, r7.lget rfl, r7.lget rfl, hfin⟩
def SameBody (gx gy : Nat) (w5 : World) (R : Ending → World → Prop) (K : World → Prop) : Prop :=
  ∃ v : Int, w5.cell? (Addr.mk gx 0 none) = some (.int .i64 v) ∧ ∃ v1 : Int, w5.cell? (Addr.mk gy 0 none) = some (.int .i64 v1) ∧ bsel (!decide (v = v1)) (R (.returned (.bool false)) w5) (∃ v2 : Bool, w5.cell? (Addr.mk gx 1 none) = some (.bool v2) ∧ ∃ v3 : Bool, w5.cell? (Addr.mk gy 1 none) = some (.bool v3) ∧ bsel (!(decide (v2 = v3))) (R (.returned (.bool false)) w5) (∃ v4 : List UInt8, w5.cell? (Addr.mk gx 2 none) = some (.string (S v4)) ∧ ∃ v5 : List UInt8, w5.cell? (Addr.mk gy 2 none) = some (.string (S v5)) ∧ bsel (!(decide (v4 = v5))) (R (.returned (.bool false)) w5) (∃ v6 : List UInt8, w5.cell? (Addr.mk gx 3 none) = some (.string (S v6)) ∧ ∃ v7 : List UInt8, w5.cell? (Addr.mk gy 3 none) = some (.string (S v7)) ∧ bsel (!(decide (v6 = v7))) (R (.returned (.bool false)) w5) (∃ v8 : List UInt8, w5.cell? (Addr.mk gx 4 none) = some (.string (S v8)) ∧ ∃ v9 : List UInt8, w5.cell? (Addr.mk gy 4 none) = some (.string (S v9)) ∧ bsel (!(decide (v8 = v9))) (R (.returned (.bool false)) w5) (∃ (v10 : Option Addr) (vL vC : Nat), w5.cell? (Addr.mk gx 5 none) = some (.slice v10 vL vC) ∧ ∃ (v11 : Option Addr) (vL1 vC1 : Nat), w5.cell? (Addr.mk gy 5 none) = some (.slice v11 vL1 vC1) ∧ Calls Tryd.prog fn_ref08_Same #[(.slice v10 vL vC), (.slice v11 vL1 vC1)] w5 (fun ed w6 => (∃ r : Bool, ed = .returned (.bool r) ∧ bsel (!r) (R (.returned (.bool false)) w6) (K w6)) ∨ (∃ ch, ed = .panicked ch ∧ R (.panicked ch) w6)))))))
theorem sameBody_spec {w5 : World} {gx gy : Nat} {x y : Pt} {xp yp : Option Addr} {xc yc : Nat} {R : Ending → World → Prop} {K : World → Prop} (rx : Row w5 gx 81 ⟨pcell x (.slice xp x.w.length xc)⟩) (ry : Row w5 gy 81 ⟨pcell y (.slice yp y.w.length yc)⟩)
    (ih : Calls Tryd.prog fn_ref08_Same #[.slice xp x.w.length xc, .slice yp y.w.length yc] w5 (fun e w' => (∃ b : Bool, e = .returned (.bool b) ∧ (b = true ↔ x.w = y.w)) ∧ Still w5 w'))
    (hno : x ≠ y → ∀ w', Still w5 w' → R (.returned (.bool false)) w') (hyes : x = y → ∀ w', Still w5 w' → K w') : SameBody gx gy w5 R K := by
  have ne : ∀ {α : Type} (f : Pt → α), f x ≠ f y → R (.returned (.bool false)) w5 := fun f h => hno (fun e => h (by rw [e])) _ (Still.refl _)
  refine ⟨_, rx.lget rfl, _, ry.lget rfl, bsel_of (fun h => ne Pt.k (nt h)) (fun h1 => ⟨_, rx.lget rfl, _, ry.lget rfl, bsel_of (fun h => ne Pt.q (nt h)) (fun h2 => ⟨_, rx.lget rfl, _, ry.lget rfl, bsel_of (fun h => ne Pt.t (nt h)) (fun h3 => ⟨_, rx.lget rfl, _, ry.lget rfl, bsel_of (fun h => ne Pt.n (nt h)) (fun h4 => ⟨_, rx.lget rfl, _, ry.lget rfl, bsel_of (fun h => ne Pt.o (nt h)) (fun h5 => ⟨_, _, _, rx.lget rfl, _, _, _, ry.lget rfl, ih.mono ?_⟩)⟩)⟩)⟩)⟩)⟩
  rintro _ w6 ⟨⟨b, rfl, hb⟩, s6⟩
  have h1 : x.k = y.k := nf h1
  have h2 : x.q = y.q := nf h2
  have h3 : x.t = y.t := nf h3
  have h4 : x.n = y.n := nf h4
  have h5 : x.o = y.o := nf h5
  refine .inl ⟨b, rfl, bsel_of (fun h => ?_) (fun h => ?_)⟩
  · have h : b = false := by simpa using h
    exact hno (fun e => by rw [e] at hb; rw [hb.2 rfl] at h; cases h) _ s6
  · have h : b = true := by simpa using h
    have hw := hb.1 h
    refine hyes ?_ _ s6
    cases x
    cases y
    simp only [Pt.k, Pt.q, Pt.t, Pt.n, Pt.o, Pt.w] at h1 h2 h3 h4 h5 hw
    rw [h1, h2, h3, h4, h5, hw]
theorem same_of : ∀ (n : Nat) (la : List Pt), SizeOf.sizeOf la < n → wtL la < 500000000 → ∀ (lb : List Pt) (w : World) (F G : Nat → Prop) (u v : Value), SlAt w F la u → SlAt w G lb v →
    Calls Tryd.prog fn_ref08_Same #[u, v] w (fun e w' => (∃ b : Bool, e = .returned (.bool b) ∧ (b = true ↔ la = lb)) ∧ Still w w') := by
  intro n
  induction n with
  | zero => intro l h; omega
  | succ n ih =>
    intro la hn hl lb w F G u v hu hv
    obtain ⟨pa, ca, rfl⟩ := hu.form
    obtain ⟨pb, cb, rfl⟩ := hv.form
    have hwl := wtL_len la
    refine ref08_Same_calls _ _ _ _ _ _ _ _ ?_
    refine bsel_of (fun hne => ?_) (fun he => ?_)
    · have hne : ¬ ((la.length : Int) = (lb.length : Int)) := nt hne
      refine ⟨⟨_, rfl, fun h => (by cases h), fun h => ?_⟩, Still.refl _⟩
      rw [h] at hne
      exact absurd rfl hne
    have he : (la.length : Int) = (lb.length : Int) := nf he
    have hlen : lb.length = la.length := by omega
    refine ⟨fun i w1 => ∃ k : Nat, i = (k : Int) ∧ k ≤ la.length ∧ la.take k = lb.take k ∧ Still w w1, fun i _ => la.length - i.toNat, ⟨0, rfl, Nat.zero_le _, rfl, Still.refl _⟩, ?_⟩
    rintro _ _ w1 ⟨k, rfl, hk, hp, hs1⟩
    refine bsel_of (fun hx => ?_) (fun hx => ?_)
    rotate_left
    · have hx : k = la.length := by have := of_decide_eq_false hx; omega
      rw [hx, List.take_length, List.take_of_length_le (by omega)] at hp
      exact ⟨⟨_, rfl, fun _ => hp, fun _ => rfl⟩, hs1⟩
    have hx : k < la.length := by have := of_decide_eq_true hx; omega
    have hy : k < lb.length := by omega
    obtain ⟨ba, xp, xc, rfl, a0, a1, a2, a3, a4, a5, hsx⟩ := (hu.still hs1).fields hx
    obtain ⟨bb, yp, yc, rfl, b0, b1, b2, b3, b4, b5, hsy⟩ := (hv.still hs1).fields hy
    rw [Int.toNat_natCast]
    have e1 : IntKind.i64.wrap ((k : Int) + 1) = ((k + 1 : Nat) : Int) := by rw [wrap_i64 (by omega) (by omega)]; omega
    have body : ∀ (gx gy : Nat) (w5 : World), Row w5 gx 81 ⟨pcell la[k] (.slice xp la[k].w.length xc)⟩ → Row w5 gy 81 ⟨pcell lb[k] (.slice yp lb[k].w.length yc)⟩ → Still w1 w5 →
        SameBody gx gy w5 (fun e w' => (∃ b : Bool, e = .returned (.bool b) ∧ (b = true ↔ la = lb)) ∧ Still w w') (fun w6 => (∃ k' : Nat, IntKind.i64.wrap ((k : Int) + 1) = (k' : Int) ∧ k' ≤ la.length ∧ la.take k' = lb.take k' ∧ Still w w6) ∧ la.length - (IntKind.i64.wrap ((k : Int) + 1)).toNat < la.length - ((k : Int)).toNat) := by
      intro gx gy w5 rx ry s5
      refine sameBody_spec rx ry (ih _ (by have := word_of hx; omega) (by have := wt_word hx; omega) _ w5 F G _ _ (hsx.still s5) (hsy.still s5)) (fun hne w' s' => ⟨⟨_, rfl, fun h => (by cases h), fun h => ?_⟩, (hs1.trans s5).trans s'⟩) (fun heq w' s' => ⟨⟨k + 1, e1, hx, ?_, (hs1.trans s5).trans s'⟩, by rw [e1]; omega⟩)
      · subst h
        exact absurd rfl hne
      · rw [take_one hx, take_one hy, hp, heq]
    have z0 : w1.drew.heap.size = w1.heap.size := rfl
    refine ⟨fun wq => Still w1 wq, drew_still w1, by omega, by omega, _, _, _, _, _, _, _, _, fun wq hq => hq.cell a0, fun wq hq => hq.cell a1, fun wq hq => hq.cell a2, fun wq hq => hq.cell a3, fun wq hq => hq.cell a4, fun wq hq => hq.cell a5, by omega, by omega, _, _, _, _, _, _, _, _, fun wq hq => hq.cell b0, fun wq hq => hq.cell b1, fun wq hq => hq.cell b2, fun wq hq => hq.cell b3, fun wq hq => hq.cell b4, fun wq hq => hq.cell b5, ?_, ?_⟩
    · refine allocK fun w2 r2 s2 z2 => ⟨(drew_still w1).trans s2, allocK fun w3 r3 s3 z3 => ⟨((drew_still w1).trans s2).trans s3, ?_⟩⟩
      have s13 := ((drew_still w1).trans s2).trans s3
      refine stK (r2.still s3) (by simp) one6 fun w4 r4 m4 z4 => ?_
      have s14 : Still w1 w4 := s13.box (by omega) m4
      refine ⟨s14, stK (r3.mod m4 (by omega)) (by simp) one6 fun w5 r5 m5 z5 => body _ _ w5 (r4.mod m5 (by omega)) r5 (s14.box (by omega) m5)⟩
    · refine allocK fun w2 r2 s2 z2 => ⟨(drew_still w1).trans s2, allocK fun w3 r3 s3 z3 => ⟨((drew_still w1).trans s2).trans s3, ?_⟩⟩
      have s13 := ((drew_still w1).trans s2).trans s3
      refine stK r3 (by simp) one6 fun w4 r4 m4 z4 => ?_
      have s14 : Still w1 w4 := s13.box (by omega) m4
      refine ⟨s14, stK ((r2.still s3).mod m4 (by omega)) (by simp) one6 fun w5 r5 m5 z5 => body _ _ w5 (r4.mod m5 (by omega)) r5 (s14.box (by omega) m5)⟩
theorem Same_spec {F G : Nat → Prop} {la lb : List Pt} {u v : Value} (hu : SlAt w F la u) (hv : SlAt w G lb v) (hl : wtL la < 500000000) :
    Calls Tryd.prog fn_ref08_Same #[u, v] w (fun e w' => (∃ b : Bool, e = .returned (.bool b) ∧ (b = true ↔ la = lb)) ∧ Still w w') := same_of _ la (Nat.lt_succ_self _) hl lb w F G u v hu hv
theorem sameWords_spec {F G : Nat → Prop} {la lb : List (List Pt)} {p q : Option Addr} {n m c d : Nat} (hu : wsE.At w F la (.slice p n c)) (hv : wsE.At w G lb (.slice q m d)) (hl : wtW la < 500000000) :
    Calls Tryd.prog fn_ref09_sameWords #[.slice p n c, .slice q m d] w (fun e w' => (∃ b : Bool, e = .returned (.bool b) ∧ (b = true ↔ la = lb)) ∧ Still w w') := by
  obtain ⟨rfl, hlc⟩ := hu.len
  obtain ⟨rfl, _⟩ := hv.len
  have hwl := wtW_len la
  refine ref09_sameWords_calls _ _ _ _ _ _ _ _ ?_
  refine bsel_of (fun hne => ?_) (fun he => ?_)
  · have hne : ¬ ((la.length : Int) = (lb.length : Int)) := nt hne
    refine ⟨⟨_, rfl, fun h => (by cases h), fun h => ?_⟩, Still.refl _⟩
    rw [h] at hne
    exact absurd rfl hne
  have he : (la.length : Int) = (lb.length : Int) := nf he
  have hlen : lb.length = la.length := by omega
  refine ⟨fun i w1 => ∃ k : Nat, i = (k : Int) ∧ k ≤ la.length ∧ la.take k = lb.take k ∧ Still w w1, fun i _ => la.length - i.toNat, ⟨0, rfl, Nat.zero_le _, rfl, Still.refl _⟩, ?_⟩
  rintro _ _ w1 ⟨k, rfl, hk, hp, hs1⟩
  refine bsel_of (fun hx => ?_) (fun hx => ?_)
  rotate_left
  · have hx : k = la.length := by have := of_decide_eq_false hx; omega
    rw [hx, List.take_length, List.take_of_length_le (by omega)] at hp
    exact ⟨⟨_, rfl, fun _ => hp, fun _ => rfl⟩, hs1⟩
  have hx : k < la.length := by have := of_decide_eq_true hx; omega
  have hy : k < lb.length := by omega
  obtain ⟨ba, cs, rfl, _, ⟨va, rfl, hsa⟩, hca⟩ := (hu.still hs1).get (List.getElem?_eq_getElem hx)
  obtain ⟨bb, ds, rfl, _, ⟨vb, rfl, hsb⟩, hcb⟩ := (hv.still hs1).get (List.getElem?_eq_getElem hy)
  obtain ⟨pa, ca, rfl⟩ := hsa.form
  obtain ⟨pb, cb, rfl⟩ := hsb.form
  have hm := wtW_mem (List.getElem_mem hx)
  have e1 : IntKind.i64.wrap ((k : Int) + 1) = ((k + 1 : Nat) : Int) := by rw [wrap_i64 (by omega) (by omega)]; omega
  refine ⟨fun wq => Still w1 wq, drew_still w1, by omega, by omega, _, _, _, fun wq hq => hq.cell hca.zero, by omega, by omega, _, _, _, fun wq hq => hq.cell hcb.zero, (Same_spec (hsa.still (drew_still w1)) (hsb.still (drew_still w1)) (by omega)).mono ?_⟩
  rintro _ w2 ⟨⟨b, rfl, hb⟩, s2⟩
  have s02 := (hs1.trans (drew_still w1)).trans s2
  refine .inl ⟨b, rfl, bsel_of (fun h => ⟨⟨_, rfl, fun h => (by cases h), fun e => ?_⟩, s02⟩) (fun h => ?_)⟩
  · subst e
    have h : b = false := by simpa using h
    rw [hb.2 rfl] at h
    cases h
  · have h : b = true := by simpa using h
    refine ⟨⟨k + 1, e1, hx, ?_, s02⟩, by rw [e1]; dsimp only; omega⟩
    rw [take_one hx, take_one hy, hp, hb.1 h]
theorem sameN_of : ∀ (n : Nat) (x : Nd), x.wt < n → x.wt < 500000000 → ∀ (y : Nd) (w : World) (F G : Nat → Prop) (cs ds : List Value), NdE w F x cs → NdE w G y ds →
    Calls Tryd.prog fn_ref09_Same #[.agg ⟨cs⟩, .agg ⟨ds⟩] w (fun e w' => (∃ b : Bool, e = .returned (.bool b) ∧ (b = true ↔ x = y)) ∧ Still w w') := by
  intro n
  induction n with
  | zero => intro x h; omega
  | succ n ih =>
    intro x hn hl y w F G cs ds hx hy
    have hwt := x.wt_eq
    have hwl := wtP_len x.as
    have hwr := wtP_len x.rs
    have hwo := wtO_len x.os
    have hwk := wtNs_len x.ks
    obtain ⟨pw, cw, pa, ca, pr, cr, po, co, pk, ck, rfl, xw, xa, xr, xo, xk⟩ := hx.outs
    obtain ⟨qw, dw, qa, da, qr, dr, qo, d_o, qk, dk, rfl, yw, ya, yr, yo, yk⟩ := hy.outs
    clear hx hy
    refine ref09_Same_calls _ _ _ _ _ _ _ _ _ _ _ _ _ _ _ _ _ _ _ _ _ _ _ _ _ _ _ _ _ _ _ _ _ _ _ _ _ _ ?_
    have no : x ≠ y → ∀ w', Still w w' → (∃ b : Bool, Ending.returned (.bool false) = .returned (.bool b) ∧ (b = true ↔ x = y)) ∧ Still w w' := fun h w' s => ⟨⟨false, rfl, (fun e => by cases e), fun e => absurd e h⟩, s⟩
    refine allocK fun w1 r1 s1 z1 => allocK fun w2 r2 s2 z2 => ?_
    have s02 := s1.trans s2
    have r1 := r1.still s2
    refine ⟨_, r1.lget rfl, _, r2.lget rfl, bsel_of (fun h => no (fun e => nt h (congrArg Nd.k e)) _ s02) (fun h1 => ?_)⟩
    refine ⟨_, r1.lget rfl, _, r2.lget rfl, bsel_of (fun h => no (fun e => nt h (congrArg Nd.neg e)) _ s02) (fun h2 => ?_)⟩
    refine ⟨_, r1.lget rfl, _, r2.lget rfl, bsel_of (fun h => no (fun e => nt h (congrArg Nd.nm e)) _ s02) (fun h3 => ?_)⟩
    have h1 : x.k = y.k := nf h1
    have h2 : x.neg = y.neg := nf h2
    have h3 : x.nm = y.nm := nf h3
    refine ⟨_, _, _, r1.lget rfl, _, _, _, r2.lget rfl, (sameWords_spec (xw.still s02) (yw.still s02) (by omega)).mono ?_⟩
    rintro _ w3 ⟨⟨b, rfl, hb⟩, s3⟩
    have s03 := s02.trans s3
    have r1 := r1.still s3
    have r2 := r2.still s3
    refine .inl ⟨b, rfl, bsel_of (fun h => no (fun e => ?_) _ s03) (fun h => ?_)⟩
    · have h : b = false := by simpa using h
      rw [hb.2 (congrArg Nd.ws e)] at h
      cases h
    have h4 : x.ws = y.ws := hb.1 (by simpa using h)
    clear h hb b
    have len : ∀ {a b : Nat}, (!decide ((a : Int) = (b : Int))) = true → ¬ a = b := fun h e => nt h (by rw [e])
    have len' : ∀ {a b : Nat}, (!decide ((a : Int) = (b : Int))) = false → b = a := fun h => by have := nf h; omega
    refine ⟨_, _, _, r1.lget rfl, _, _, _, r2.lget rfl, bsel_of (fun h => no (fun e => len h (congrArg (fun z : Nd => z.as.length) e)) _ s03) (fun l5 => ?_)⟩
    refine ⟨_, _, _, r1.lget rfl, _, _, _, r2.lget rfl, bsel_of (fun h => no (fun e => len h (congrArg (fun z : Nd => z.rs.length) e)) _ s03) (fun l6 => ?_)⟩
    refine ⟨_, _, _, r1.lget rfl, _, _, _, r2.lget rfl, bsel_of (fun h => no (fun e => len h (congrArg (fun z : Nd => z.os.length) e)) _ s03) (fun l7 => ?_)⟩
    refine ⟨_, _, _, r1.lget rfl, _, _, _, r2.lget rfl, bsel_of (fun h => no (fun e => len h (congrArg (fun z : Nd => z.ks.length) e)) _ s03) (fun l8 => ?_)⟩
    have l5 := len' l5
    have l6 := len' l6
    have l7 := len' l7
    have l8 := len' l8
    refine ⟨fun i w4 => ∃ k : Nat, i = (k : Int) ∧ k ≤ x.as.length ∧ x.as.take k = y.as.take k ∧ Still w3 w4, fun i _ => x.as.length - i.toNat, ⟨0, rfl, Nat.zero_le _, rfl, Still.refl _⟩, ?_⟩
    rintro _ _ w4 ⟨k, rfl, hk, hp, s4⟩
    have s04 := s03.trans s4
    refine ⟨_, _, _, (r1.still s4).lget rfl, bsel_of (fun hx => ?_) (fun hx => ?_)⟩
    · have hx : k < x.as.length := by have := of_decide_eq_true hx; omega
      have hy : k < y.as.length := by omega
      obtain ⟨ba, cs, rfl, _, ⟨va, rfl, hsa⟩, hca⟩ := (xa.still s04).get (List.getElem?_eq_getElem hx)
      obtain ⟨bb, ds, rfl, _, ⟨vb, rfl, hsb⟩, hcb⟩ := (ya.still s04).get (List.getElem?_eq_getElem hy)
      obtain ⟨pa, ca, rfl⟩ := hsa.form
      obtain ⟨pb, cb, rfl⟩ := hsb.form
      have hm := wtP_mem (List.getElem_mem hx)
      have e1 : IntKind.i64.wrap ((k : Int) + 1) = ((k + 1 : Nat) : Int) := by rw [wrap_i64 (by omega) (by omega)]; omega
      have c1 : ∀ wq, Still w4 wq → wq.cell? (Addr.mk w.heap.size 4 none) = some (.slice (some ba) x.as.length _) := fun wq hq => ((r1.still s4).still hq).lget rfl
      have c2 : ∀ wq, Still w4 wq → wq.cell? (Addr.mk w1.heap.size 4 none) = some (.slice (some bb) y.as.length _) := fun wq hq => ((r2.still s4).still hq).lget rfl
      refine ⟨fun wq => Still w4 wq, drew_still w4, _, _, _, c1, by omega, by omega, _, fun wq hq => hq.cell hca.zero, _, _, _, c2, by omega, by omega, _, fun wq hq => hq.cell hcb.zero, bsel_of (fun h => no (fun e => nt h ?_) _ (s04.trans (drew_still w4))) (fun hnm => ?_)⟩
      · subst e
        rfl
      have hnm : (x.as[k]).1 = (y.as[k]).1 := nf hnm
      refine ⟨_, _, _, c1, by omega, by omega, _, _, _, fun wq hq => hq.cell (hca 1 _ rfl), _, _, _, c2, by omega, by omega, _, _, _, fun wq hq => hq.cell (hcb 1 _ rfl), (Same_spec (hsa.still (drew_still w4)) (hsb.still (drew_still w4)) (by omega)).mono ?_⟩
      rintro _ w5 ⟨⟨b, rfl, hb⟩, s5⟩
      have s45 := (drew_still w4).trans s5
      refine .inl ⟨b, rfl, bsel_of (fun h => no (fun e => ?_) _ (s04.trans s45)) (fun h => ?_)⟩
      · subst e
        have h : b = false := by simpa using h
        rw [hb.2 rfl] at h
        cases h
      · have h : b = true := by simpa using h
        refine ⟨⟨k + 1, e1, hx, ?_, s4.trans s45⟩, by rw [e1]; dsimp only; omega⟩
        rw [take_one hx, take_one hy, hp, Prod.ext hnm (hb.1 h)]
    have h5 : x.as = y.as := by
      have hx : k = x.as.length := by have := of_decide_eq_false hx; omega
      rwa [hx, List.take_length, List.take_of_length_le (by omega)] at hp
    clear hx hp hk k
    have r1 := r1.still s4
    have r2 := r2.still s4
    refine ⟨fun i w6 => ∃ k : Nat, i = (k : Int) ∧ k ≤ x.rs.length ∧ x.rs.take k = y.rs.take k ∧ Still w4 w6, fun i _ => x.rs.length - i.toNat, ⟨0, rfl, Nat.zero_le _, rfl, Still.refl _⟩, ?_⟩
    rintro _ _ w6 ⟨k, rfl, hk, hp, s6⟩
    have s06 := s04.trans s6
    refine ⟨_, _, _, (r1.still s6).lget rfl, bsel_of (fun hx => ?_) (fun hx => ?_)⟩
    · have hx : k < x.rs.length := by have := of_decide_eq_true hx; omega
      have hy : k < y.rs.length := by omega
      obtain ⟨ba, cs, rfl, _, ⟨va, rfl, hsa⟩, hca⟩ := (xr.still s06).get (List.getElem?_eq_getElem hx)
      obtain ⟨bb, ds, rfl, _, ⟨vb, rfl, hsb⟩, hcb⟩ := (yr.still s06).get (List.getElem?_eq_getElem hy)
      obtain ⟨pa, ca, rfl⟩ := hsa.form
      obtain ⟨pb, cb, rfl⟩ := hsb.form
      have hm := wtP_mem (List.getElem_mem hx)
      have e1 : IntKind.i64.wrap ((k : Int) + 1) = ((k + 1 : Nat) : Int) := by rw [wrap_i64 (by omega) (by omega)]; omega
      have c1 : ∀ wq, Still w6 wq → wq.cell? (Addr.mk w.heap.size 5 none) = some (.slice (some ba) x.rs.length _) := fun wq hq => ((r1.still s6).still hq).lget rfl
      have c2 : ∀ wq, Still w6 wq → wq.cell? (Addr.mk w1.heap.size 5 none) = some (.slice (some bb) y.rs.length _) := fun wq hq => ((r2.still s6).still hq).lget rfl
      refine ⟨fun wq => Still w6 wq, drew_still w6, _, _, _, c1, by omega, by omega, _, fun wq hq => hq.cell hca.zero, _, _, _, c2, by omega, by omega, _, fun wq hq => hq.cell hcb.zero, bsel_of (fun h => no (fun e => nt h ?_) _ (s06.trans (drew_still w6))) (fun hnm => ?_)⟩
      · subst e
        rfl
      have hnm : (x.rs[k]).1 = (y.rs[k]).1 := nf hnm
      refine ⟨_, _, _, c1, by omega, by omega, _, _, _, fun wq hq => hq.cell (hca 1 _ rfl), _, _, _, c2, by omega, by omega, _, _, _, fun wq hq => hq.cell (hcb 1 _ rfl), (Same_spec (hsa.still (drew_still w6)) (hsb.still (drew_still w6)) (by omega)).mono ?_⟩
      rintro _ w5 ⟨⟨b, rfl, hb⟩, s5⟩
      have s45 := (drew_still w6).trans s5
      refine .inl ⟨b, rfl, bsel_of (fun h => no (fun e => ?_) _ (s06.trans s45)) (fun h => ?_)⟩
      · subst e
        have h : b = false := by simpa using h
        rw [hb.2 rfl] at h
        cases h
      · have h : b = true := by simpa using h
        refine ⟨⟨k + 1, e1, hx, ?_, s6.trans s45⟩, by rw [e1]; dsimp only; omega⟩
        rw [take_one hx, take_one hy, hp, Prod.ext hnm (hb.1 h)]
    have h6 : x.rs = y.rs := by
      have hx : k = x.rs.length := by have := of_decide_eq_false hx; omega
      rwa [hx, List.take_length, List.take_of_length_le (by omega)] at hp
    clear hx hp hk k
    have r1 := r1.still s6
    have r2 := r2.still s6
    refine ⟨fun i w8 => ∃ k : Nat, i = (k : Int) ∧ k ≤ x.os.length ∧ x.os.take k = y.os.take k ∧ Still w6 w8, fun i _ => x.os.length - i.toNat, ⟨0, rfl, Nat.zero_le _, rfl, Still.refl _⟩, ?_⟩
    rintro _ _ w8 ⟨k, rfl, hk, hp, s8⟩
    have s08 := s06.trans s8
    have r1 := r1.still s8
    have r2 := r2.still s8
    refine ⟨_, _, _, r1.lget rfl, bsel_of (fun hx => ?_) (fun hx => ?_)⟩
    · have hx : k < x.os.length := by have := of_decide_eq_true hx; omega
      have hy : k < y.os.length := by omega
      obtain ⟨ba, cs, rfl, _, hEa, hca⟩ := (xo.still s08).get (List.getElem?_eq_getElem hx)
      obtain ⟨bb, ds, rfl, _, hEb, hcb⟩ := (yo.still s08).get (List.getElem?_eq_getElem hy)
      obtain rfl : cs = _ := hEa
      obtain rfl : ds = _ := hEb
      have e1 : IntKind.i64.wrap ((k : Int) + 1) = ((k + 1 : Nat) : Int) := by rw [wrap_i64 (by omega) (by omega)]; omega
      refine ⟨_, _, _, r1.lget rfl, by omega, by omega, _, hca.zero, _, _, _, r2.lget rfl, by omega, by omega, _, hcb.zero, bsel_of (fun h => no (fun e => nt h ?_) _ (s08.trans (drew_still w8))) (fun hnm => ?_)⟩
      · subst e
        rfl
      have hnm : x.os[k] = y.os[k] := nf hnm
      refine ⟨⟨k + 1, e1, hx, ?_, s8.trans (drew_still w8)⟩, by rw [e1]; dsimp only; omega⟩
      rw [take_one hx, take_one hy, hp, hnm]
    have h7 : x.os = y.os := by
      have hx : k = x.os.length := by have := of_decide_eq_false hx; omega
      rwa [hx, List.take_length, List.take_of_length_le (by omega)] at hp
    clear hx hp hk k
    refine ⟨fun i w9 => ∃ k : Nat, i = (k : Int) ∧ k ≤ x.ks.length ∧ x.ks.take k = y.ks.take k ∧ Still w8 w9, fun i _ => x.ks.length - i.toNat, ⟨0, rfl, Nat.zero_le _, rfl, Still.refl _⟩, ?_⟩
    rintro _ _ w9 ⟨k, rfl, hk, hp, s9⟩
    have s09 := s08.trans s9
    refine ⟨_, _, _, (r1.still s9).lget rfl, bsel_of (fun hx => ?_) (fun hx => ?_)⟩
    · have hx : k < x.ks.length := by have := of_decide_eq_true hx; omega
      have hy : k < y.ks.length := by omega
      obtain ⟨ba, cs, rfl, _, hEa, hca⟩ := (xk.still s09).get (List.getElem?_eq_getElem hx)
      obtain ⟨bb, ds, rfl, _, hEb, hcb⟩ := (yk.still s09).get (List.getElem?_eq_getElem hy)
      have hEa : NdE w9 F (x.ks[k]) cs := hEa
      have hEb : NdE w9 G (y.ks[k]) ds := hEb
      obtain ⟨_, _, _, _, _, _, _, _, _, _, rfl, _⟩ := hEa.outs
      obtain ⟨_, _, _, _, _, _, _, _, _, _, rfl, _⟩ := hEb.outs
      have hm := wtNs_mem (List.getElem_mem hx)
      have e1 : IntKind.i64.wrap ((k : Int) + 1) = ((k + 1 : Nat) : Int) := by rw [wrap_i64 (by omega) (by omega)]; omega
      have c1 : ∀ wq, Still w9 wq → wq.cell? (Addr.mk w.heap.size 7 none) = some (.slice (some ba) x.ks.length _) := fun wq hq => ((r1.still s9).still hq).lget rfl
      have c2 : ∀ wq, Still w9 wq → wq.cell? (Addr.mk w1.heap.size 7 none) = some (.slice (some bb) y.ks.length _) := fun wq hq => ((r2.still s9).still hq).lget rfl
      refine ⟨fun wq => Still w9 wq, drew_still w9, _, _, _, c1, by omega, by omega, _, _, _, _, _, _, _, _, _, _, _, _, _, _, _, _, _, _, fun wq hq => hq.cell hca.zero, fun wq hq => hq.cell (hca 1 _ rfl), fun wq hq => hq.cell (hca 2 _ rfl), fun wq hq => hq.cell (hca 3 _ rfl), fun wq hq => hq.cell (hca 4 _ rfl), fun wq hq => hq.cell (hca 5 _ rfl), fun wq hq => hq.cell (hca 6 _ rfl), fun wq hq => hq.cell (hca 7 _ rfl), _, _, _, c2, by omega, by omega,
        _, _, _, _, _, _, _, _, _, _, _, _, _, _, _, _, _, _, fun wq hq => hq.cell hcb.zero, fun wq hq => hq.cell (hcb 1 _ rfl), fun wq hq => hq.cell (hcb 2 _ rfl), fun wq hq => hq.cell (hcb 3 _ rfl), fun wq hq => hq.cell (hcb 4 _ rfl), fun wq hq => hq.cell (hcb 5 _ rfl), fun wq hq => hq.cell (hcb 6 _ rfl), fun wq hq => hq.cell (hcb 7 _ rfl), (ih _ (by omega) (by omega) _ w9.drew F G _ _ (hEa.still (drew_still w9)) (hEb.still (drew_still w9))).mono ?_⟩
      rintro _ w5 ⟨⟨b, rfl, hb⟩, s5⟩
      have s45 := (drew_still w9).trans s5
      refine .inl ⟨b, rfl, bsel_of (fun h => no (fun e => ?_) _ (s09.trans s45)) (fun h => ?_)⟩
      · subst e
        have h : b = false := by simpa using h
        rw [hb.2 rfl] at h
        cases h
      · have h : b = true := by simpa using h
        refine ⟨⟨k + 1, e1, hx, ?_, s9.trans s45⟩, by rw [e1]; dsimp only; omega⟩
        rw [take_one hx, take_one hy, hp, hb.1 h]
    have h8 : x.ks = y.ks := by
      have hx : k = x.ks.length := by have := of_decide_eq_false hx; omega
      rwa [hx, List.take_length, List.take_of_length_le (by omega)] at hp
    refine ⟨⟨true, rfl, fun _ => ?_, fun _ => rfl⟩, s09⟩
    rw [← x.eta, ← y.eta, h1, h2, h3, h4, h5, h6, h7, h8]
theorem SameN_spec {F G : Nat → Prop} {x y : Nd} {cs ds : List Value} (hx : NdE w F x cs) (hy : NdE w G y ds) (hl : x.wt < 500000000) :
    Calls Tryd.prog fn_ref09_Same #[.agg ⟨cs⟩, .agg ⟨ds⟩] w (fun e w' => (∃ b : Bool, e = .returned (.bool b) ∧ (b = true ↔ x = y)) ∧ Still w w') := sameN_of _ x (Nat.lt_succ_self _) hl y w F G cs ds hx hy
theorem sameN_true {F G : Nat → Prop} {x : Nd} {cs ds : List Value} (hx : NdE w F x cs) (hy : NdE w G x ds) (hl : x.wt < 500000000) :
    Calls Tryd.prog fn_ref09_Same #[.agg ⟨cs⟩, .agg ⟨ds⟩] w (fun e w' => e = .returned (.bool true) ∧ Still w w') := by
  refine (SameN_spec hx hy hl).mono ?_
  rintro e w' ⟨⟨b, rfl, hb⟩, s⟩
  rw [hb.2 rfl]
  exact ⟨rfl, s⟩
end Go.Proofs.YthommfjiaalecaaDoor
namespace Go.Proofs.YthommfjiaalecaaDoor
def WEnd (z : Txt) : Prop := z = [] ∨ ∃ c y, z = c :: y ∧ (c = 32 ∨ c = 59)
theorem WEnd.ends {z : Txt} (h : WEnd z) : endsB z = true := by rcases h with rfl | ⟨c, y, rfl, rfl | rfl⟩ <;> rfl
theorem WEnd.noD {z : Txt} (h : WEnd z) : NoD z := by
  intro c y e
  rcases h with rfl | ⟨c', y', rfl, h⟩
  · cases e
  · injection e with e1 _
    rw [← e1]
    rcases h with rfl | rfl <;> decide
theorem isEnd_of {c : UInt8} (h : isEnd c = true) : c = 32 ∨ c = 9 ∨ c = 10 ∨ c = 59 ∨ c = 124 ∨ c = 38 ∨ c = 40 ∨ c = 41 ∨ c = 60 ∨ c = 62 := by
  simp only [isEnd, Bool.or_eq_true, beq_iff_eq] at h
  rcases h with ((((((((h | h) | h) | h) | h) | h) | h) | h) | h) | h <;> simp [h]
theorem nam_end {c : UInt8} (h : isNam c = true ∨ isSpec c = true) : isEnd c = false := by
  cases he : isEnd c with
  | false => rfl
  | true =>
    exfalso
    rcases isEnd_of he with rfl | rfl | rfl | rfl | rfl | rfl | rfl | rfl | rfl | rfl <;> (revert h; decide)
theorem word_byte {c : UInt8} {r : Txt} (he : isEnd c = false) (h1 : c ≠ 92) (h2 : c ≠ 39) (h3 : c ≠ 34) (h4 : c = 36 → ∀ a y, r = a :: y → a ≠ 40 ∧ a ≠ 123) : wordD (c :: r) = wordD r :=
  wordD_unit (s := c :: r) he (unit_byte h1 h2 h3 h4)
theorem word_bare : ∀ (t x : Txt), Bare false t → (∀ c ∈ t, isEnd c = false) → NoD x → wordD (t ++ x) = wordD x
  | [], x, _, _, _ => rfl
  | c :: t, x, h, he, hx => by
    obtain ⟨⟨h1, h2, h3, _⟩, h5, h6⟩ := h
    rw [List.cons_append, word_byte (he c (List.mem_cons_self ..)) h1 h2 h3 fun e a y hay => ?_]
    · exact word_bare t x h6 (fun d hd => he d (List.mem_cons_of_mem _ hd)) hx
    · cases t with
      | nil => exact (hx a y hay).2.2
      | cons b t =>
        injection hay with e1 _
        rw [← e1]
        exact (h5 e b t rfl).2.2
theorem word_single (x t : Txt) : wordD (single t ++ x) = wordD x := by
  refine quote_ind (C := fun t => wordD (single t ++ x) = wordD x) (fun t ht => ?_) (fun y t hy ih => ?_) _ t (Nat.lt_succ_self _)
  · rw [single_plain ht]
    simp only [List.cons_append, List.append_assoc, List.nil_append]
    exact wordD_unit rfl (unit_quote ht)
  · rw [single_cut hy]
    simp only [List.cons_append, List.append_assoc]
    rw [wordD_unit rfl (unit_quote hy), wordD_unit rfl unit_back]
    exact ih
def NE (l : List Pt) : Prop := ∀ p ∈ l, p.k = 0 → p.q = false → ∀ c ∈ p.t, isEnd c = false
theorem word_part {L M : Nat} {p : Pt} (h : VP (OkL L true) false M p) (hM : M ≤ 30) {x : Txt} (hx : p.k = 0 → p.q = false → NoD x) (he : p.k = 0 → p.q = false → ∀ c ∈ p.t, isEnd c = false) : wordD (p.pr ++ x) = wordD x := by
  by_cases hk : p.k = 0
  · rw [pr_text p hk]
    by_cases hq : p.q = true
    · rw [if_pos hq]
      exact word_single x p.t
    · have hq : p.q = false := by simpa using hq
      rw [if_neg (by rw [hq]; decide)]
      rcases h with h | h | h | h
      · exact word_bare _ _ (h.2.2.2.2.2 hq).2 (he hk hq) (hx hk hq)
      · exact absurd (hk.symm.trans h.1) (by decide)
      · exact absurd (hk.symm.trans h.1) (by decide)
      · exact absurd (hk.symm.trans h.1) (by decide)
  · rw [pr_body p hk]
    by_cases hq : p.q = true
    · rw [hq]
      have := quoted_unit (skips L) h hk (d := 30) hM x
      simp only [wrapQ, if_true, List.cons_append, List.append_assoc, List.nil_append]
      exact wordD_unit rfl this
    · have hq : p.q = false := by simpa using hq
      rw [hq]
      simp only [wrapQ, Bool.false_eq_true, if_false]
      obtain ⟨r, hr⟩ := body_head h hk
      have := body_unit (skips L) h hk (d := 30) (by omega) x
      refine wordD_unit ?_ this
      rw [hr]
      rfl
theorem word_parts {L M : Nat} (hM : M ≤ 30) {z : Txt} (hz : WEnd z) : ∀ {l : List Pt}, Norm l → (∀ p ∈ l, VP (OkL L true) false M p) → NE l → wordD (prL l ++ z) = some z
  | [], _, _, _ => wordD_ends hz.ends
  | p :: r, hn, hv, he => by
    simp only [prL, List.append_assoc]
    rw [word_part (hv p (List.mem_cons_self ..)) hM (fun h1 h2 => after hn (fun x hx => hv x (List.mem_cons_of_mem _ hx)) h1 h2 hz.noD) (he p (List.mem_cons_self ..))]
    exact word_parts hM hz hn.tail (fun x hx => hv x (List.mem_cons_of_mem _ hx)) fun x hx => he x (List.mem_cons_of_mem _ hx)
def Hard (p : Pt) : Prop := p.k ≠ 0 ∨ p.q = true
theorem NE.add {l : List Pt} {p : Pt} (hl : NE l) (hp : p.k = 0 → p.q = false → ∀ c ∈ p.t, isEnd c = false) : NE (addP l p) := by
  refine all_add2 (V := fun p => p.k = 0 → p.q = false → ∀ c ∈ p.t, isEnd c = false) hl hp fun x hx hg h1 h2 c hc => ?_
  have hc : c ∈ x.t ++ p.t := hc
  have h2 : x.q = false := h2
  rcases List.mem_append.1 hc with hc | hc
  · exact hl x (List.mem_of_getLast? hx) hg.2.1 h2 c hc
  · exact hp hg.1 (hg.2.2.symm.trans h2) c hc
theorem NE.fold : ∀ {ps l : List Pt}, NE l → (∀ p ∈ ps, Hard p) → NE (ps.foldl addP l)
  | [], l, h, _ => h
  | p :: ps, l, h, hp => NE.fold (ps := ps) (h.add fun h1 h2 => ((hp p (List.mem_cons_self ..)).elim (fun e => absurd h1 e) fun e => by rw [e] at h2; cases h2)) fun x hx => hp x (List.mem_cons_of_mem _ hx)
def Lead (s0 : Txt) (acc : List Pt) (s : Txt) : Prop := (acc = [] → s = s0) ∧ ∀ p r, acc = p :: r → p.k = 0 → p.q = false → ∃ y, s0 = p.t ++ y ∧ (r = [] → y = s)
theorem Lead.hard {s0 s : Txt} {acc : List Pt} {p : Pt} (h : Lead s0 acc s) (hp : Hard p) (s' : Txt) : Lead s0 (addP acc p) s' := by
  by_cases h0 : acc = []
  · subst h0
    rw [addP_nil]
    refine ⟨fun e => (by cases e), fun q r e h1 h2 => ?_⟩
    injection e with e1 _
    subst e1
    rcases hp with e | e
    · exact absurd h1 e
    · rw [e] at h2; cases h2
  · obtain ⟨m, x, rfl⟩ := snoc_of h0
    rw [addP_snoc]
    split
    · rename_i hg
      refine ⟨fun e => (by simp at e), fun q r e h1 h2 => ?_⟩
      cases m with
      | nil =>
        injection e with e1 _
        subst e1
        have h2 : x.q = false := h2
        rcases hp with e | e
        · exact absurd hg.1 e
        · rw [hg.2.2, e] at h2; cases h2
      | cons a m =>
        injection e with e1 e2
        subst e1
        obtain ⟨y, hy, _⟩ := h.2 a _ rfl h1 h2
        exact ⟨y, hy, fun e3 => by rw [e3] at e2; simp at e2⟩
    · refine ⟨fun e => (by simp at e), fun q r e h1 h2 => ?_⟩
      cases m with
      | nil =>
        injection e with e1 e2
        subst e1
        obtain ⟨y, hy, _⟩ := h.2 x [] rfl h1 h2
        exact ⟨y, hy, fun e3 => by rw [e3] at e2; cases e2⟩
      | cons a m =>
        injection e with e1 e2
        subst e1
        obtain ⟨y, hy, _⟩ := h.2 a _ rfl h1 h2
        exact ⟨y, hy, fun e3 => by rw [e3] at e2; simp at e2⟩
theorem Lead.fold {s0 : Txt} : ∀ {ps acc : List Pt} {s : Txt}, Lead s0 acc s → (∀ p ∈ ps, Hard p) → ps ≠ [] → ∀ s', Lead s0 (ps.foldl addP acc) s'
  | [], _, _, _, _, h, _ => absurd rfl h
  | [p], acc, s, h, hp, _, s' => h.hard (hp p (List.mem_cons_self ..)) s'
  | p :: q :: ps, acc, s, h, hp, _, s' => Lead.fold (ps := q :: ps) (h.hard (hp p (List.mem_cons_self ..)) s) (fun x hx => hp x (List.mem_cons_of_mem _ hx)) (by simp) s'
theorem Lead.soft {s0 r : Txt} {acc : List Pt} {c : UInt8} (h : Lead s0 acc (c :: r)) : Lead s0 (addP acc (tx false [c])) r := by
  by_cases h0 : acc = []
  · subst h0
    rw [addP_nil]
    refine ⟨fun e => (by cases e), fun q t e _ _ => ?_⟩
    injection e with e1 _
    subst e1
    exact ⟨r, (h.1 rfl).symm, fun _ => rfl⟩
  · obtain ⟨m, x, rfl⟩ := snoc_of h0
    rw [addP_snoc]
    split
    · rename_i hg
      refine ⟨fun e => (by simp at e), fun q t e h1 h2 => ?_⟩
      cases m with
      | nil =>
        injection e with e1 _
        subst e1
        have h2 : x.q = false := h2
        obtain ⟨y, hy, hy2⟩ := h.2 x [] rfl hg.2.1 h2
        refine ⟨r, ?_, fun _ => rfl⟩
        rw [hy, hy2 rfl]
        show x.t ++ c :: r = (x.t ++ [c]) ++ r
        simp
      | cons a m =>
        injection e with e1 e2
        subst e1
        obtain ⟨y, hy, _⟩ := h.2 a _ rfl h1 h2
        exact ⟨y, hy, fun e3 => by rw [e3] at e2; simp at e2⟩
    · rename_i hg
      refine ⟨fun e => (by simp at e), fun q t e h1 h2 => ?_⟩
      cases m with
      | nil =>
        injection e with e1 e2
        subst e1
        exact absurd ⟨rfl, h1, h2⟩ hg
      | cons a m =>
        injection e with e1 e2
        subst e1
        obtain ⟨y, hy, _⟩ := h.2 a _ rfl h1 h2
        exact ⟨y, hy, fun e3 => by rw [e3] at e2; simp at e2⟩
theorem braces_hard {P : Txt → Rs (List Pt)} {q : Bool} {s : Txt} {p : Pt} (h : bracesF P q s = .ok p) : p.k = 1 ∧ p.q = q := by
  unfold bracesF at h
  split at h
  · injection h with h; subst h; exact ⟨rfl, rfl⟩
  split at h
  · cases h
  split at h
  · injection h with h; subst h; exact ⟨rfl, rfl⟩
  split at h
  · cases h
  · obtain ⟨w, _, h⟩ := Rs.and_ok h
    split at h
    · cases h
    · injection h with h; subst h; exact ⟨rfl, rfl⟩
theorem word_names : ∀ (y z : Txt), (∀ c ∈ y, isNam c = true ∨ isSpec c = true) → wordD (y ++ z) = wordD z
  | [], _, _ => rfl
  | c :: y, z, h => by
    have hc := h c (List.mem_cons_self ..)
    have hp := nam_pl hc
    rw [List.cons_append, word_byte (nam_end hc) hp.1 hp.2.1 hp.2.2.1 fun e => absurd e hp.2.2.2.1]
    exact word_names y z fun d hd => h d (List.mem_cons_of_mem _ hd)
theorem drop_units {s t : Txt} (h : unitD 30 s = some t) : s.drop (s.length - t.length) = t := (suf_drop (unitD_ends 30 _ _ h)).symm
theorem name_take {r : Txt} : ∀ c ∈ r.take (nameN r), isNam c = true := by
  cases r with
  | nil => intro c hc; cases hc
  | cons a y =>
    simp only [nameN]
    split
    · rename_i ha
      intro c hc
      rw [List.take_succ_cons, tw_take] at hc
      rcases List.mem_cons.1 hc with rfl | hc
      · exact let_nam ha
      · exact List.all_eq_true.1 (List.all_takeWhile (l := y) (p := isNam)) c hc
    · intro c hc; cases hc
theorem dollar_word {P : Txt → Rs (List Pt)} {q : Bool} {r : Txt} {p : Pt} {n : Nat} (h : dollarF P q (36 :: r) = .ok (p, n)) : (wordD (36 :: r) = some [] → wordD ((36 :: r).drop n) = some []) ∧ (p.k ≠ 0 ∧ p.q = q ∨ p = tx q [36] ∧ n = 1) := by
  unfold dollarF at h
  simp only [List.drop_succ_cons, List.drop_zero] at h
  split at h
  · split at h
    · cases h
    · rename_i t ht
      have hw : ∀ {n}, n = (36 :: r).length - t.length → wordD (36 :: r) = some [] → wordD ((36 :: r).drop n) = some [] := by
        rintro n rfl hw
        rw [drop_units ht]
        rwa [wordD_unit rfl ht] at hw
      split at h
      · obtain ⟨x, h1, h⟩ := Rs.and_ok h
        injection h with h
        injection h with e1 e2
        subst e1
        have := braces_hard h1
        exact ⟨hw e2.symm, .inl ⟨by rw [this.1]; decide, this.2⟩⟩
      · split at h
        · injection h with h
          injection h with e1 e2
          subst e1
          exact ⟨hw e2.symm, .inl ⟨(by decide : (3 : Int) ≠ 0), rfl⟩⟩
        · injection h with h
          injection h with e1 e2
          subst e1
          exact ⟨hw e2.symm, .inl ⟨(by decide : (2 : Int) ≠ 0), rfl⟩⟩
  · rename_i hb
    have hd : wordD (36 :: r) = wordD r := word_byte (by decide) (by decide) (by decide) (by decide) fun _ a y e => by
      rw [e] at hb
      simp only [List.head?_cons, Option.some.injEq, not_or] at hb
      exact hb
    split at h
    · injection h with h
      injection h with e1 e2
      subst e1 e2
      refine ⟨fun hw => ?_, .inl ⟨(by decide : (1 : Int) ≠ 0), rfl⟩⟩
      rw [hd] at hw
      rw [List.drop_succ_cons]
      rw [← List.take_append_drop (nameN r) r, word_names _ _ fun c hc => .inl (name_take c hc)] at hw
      exact hw
    · split at h
      · rename_i hs
        injection h with h
        injection h with e1 e2
        subst e1 e2
        refine ⟨fun hw => ?_, .inl ⟨(by decide : (1 : Int) ≠ 0), rfl⟩⟩
        rw [hd] at hw
        cases r with
        | nil => exact absurd hs (by decide)
        | cons c y =>
          have hc : isSpec c = true := by
            simp only [specN] at hs
            split at hs
            · assumption
            · omega
          have := word_names [c] y fun d hd => by rw [List.mem_singleton.1 hd]; exact .inr hc
          rw [List.cons_append, List.nil_append] at this
          rw [this] at hw
          exact hw
      · injection h with h
        injection h with e1 e2
        subst e1 e2
        exact ⟨fun hw => by rw [hd] at hw; exact hw, .inr ⟨rfl, rfl⟩⟩
theorem dblOne_hard {P : Txt → Rs (List Pt)} {s : Txt} {x : List Pt × Nat} (h : dblOne P s = .ok x) : (∀ p ∈ x.1, p.q = true) ∧ x.1 ≠ [] := by
  cases s with
  | nil => cases h
  | cons c r =>
    simp only [dblOne] at h
    split at h
    · rename_i hc
      subst hc
      obtain ⟨y, h1, h⟩ := Rs.and_ok h
      injection h with h
      subst h
      have := (dollar_word h1).2
      refine ⟨fun p hp => ?_, by simp⟩
      rw [List.mem_singleton.1 hp]
      rcases this with ⟨_, e⟩ | ⟨e, _⟩
      · exact e
      · rw [e]; rfl
    · split at h
      · injection h with h
        subst h
        exact ⟨fun p hp => by rw [List.mem_singleton.1 hp]; rfl, by simp⟩
      · injection h with h
        subst h
        exact ⟨fun p hp => by rw [List.mem_singleton.1 hp]; rfl, by simp⟩
theorem allq_add {l : List Pt} {p : Pt} (hl : ∀ x ∈ l, x.q = true) (hp : p.q = true) : ∀ x ∈ addP l p, x.q = true :=
  all_add2 (V := fun p => p.q = true) hl hp fun x hx _ => hl x (List.mem_of_getLast? hx)
theorem allq_fold : ∀ {ps l : List Pt}, (∀ x ∈ l, x.q = true) → (∀ x ∈ ps, x.q = true) → ∀ x ∈ ps.foldl addP l, x.q = true
  | [], _, h, _ => h
  | p :: ps, _, h, hp => allq_fold (ps := ps) (allq_add h (hp p (List.mem_cons_self ..))) fun x hx => hp x (List.mem_cons_of_mem _ hx)
theorem dbl_hard {P : Txt → Rs (List Pt)} : ∀ (n : Nat) (acc : List Pt) (s : Txt) (l : List Pt), loopF (dblOne P) n acc s = .ok l → (∀ p ∈ acc, p.q = true) → (acc ≠ [] ∨ s ≠ []) → (∀ p ∈ l, p.q = true) ∧ l ≠ []
  | 0, _, _, _, h, _, _ => by cases h
  | n + 1, acc, [], l, h, ha, hne => by
    injection h with h
    subst h
    exact ⟨ha, hne.elim id fun h => absurd rfl h⟩
  | n + 1, acc, c :: r, l, h, ha, _ => by
    simp only [loopF] at h
    obtain ⟨x, h1, h⟩ := Rs.and_ok h
    obtain ⟨h2, h3⟩ := dblOne_hard h1
    exact dbl_hard n _ _ l h (allq_fold ha h2) (.inl (fold_ne' h3))
theorem dblF_hard {P : Txt → Rs (List Pt)} {s : Txt} {l : List Pt} (h : dblF P s = .ok l) : (∀ p ∈ l, p.q = true) ∧ l ≠ [] := by
  unfold dblF at h
  split at h
  · injection h with h
    subst h
    exact ⟨fun p hp => by rw [List.mem_singleton.1 hp]; rfl, by simp⟩
  · rename_i hs
    exact dbl_hard _ _ _ _ h (fun p hp => by cases hp) (.inr hs)
theorem out_word {P : Txt → Rs (List Pt)} {c : UInt8} {r : Txt} {ps : List Pt} {n : Nat} (h : outOne P (c :: r) = .ok (ps, n)) (hw : wordD (c :: r) = some []) : wordD ((c :: r).drop n) = some [] ∧ (((∀ p ∈ ps, Hard p) ∧ ps ≠ []) ∨ (ps = [tx false [c]] ∧ n = 1 ∧ isEnd c = false)) := by
  have hend : isEnd c = false := by
    cases he : isEnd c with
    | false => rfl
    | true =>
      rw [wordD_ends (s := c :: r) he] at hw
      cases hw
  simp only [outOne] at h
  split at h
  · rename_i hc
    subst hc
    obtain ⟨y, h1, h⟩ := Rs.and_ok h
    injection h with h
    injection h with e1 e2
    subst e1 e2
    obtain ⟨g1, g2⟩ := dollar_word h1
    refine ⟨g1 hw, ?_⟩
    rcases g2 with ⟨g2, _⟩ | ⟨g2, g3⟩
    · exact .inl ⟨fun p hp => by rw [List.mem_singleton.1 hp]; exact .inl g2, by simp⟩
    · exact .inr ⟨by rw [g2], g3, hend⟩
  · rename_i hc36
    split at h
    · rename_i hc
      split at h
      · cases h
      · rename_i t ht
        have hw2 : wordD t = some [] := by rwa [wordD_unit (s := c :: r) hend ht] at hw
        have hdr := drop_units ht
        split at h
        · rename_i h92
          subst h92
          injection h with h
          injection h with e1 e2
          subst e1 e2
          refine ⟨?_, .inl ⟨fun p hp => by rw [List.mem_singleton.1 hp]; exact .inr rfl, by simp⟩⟩
          cases r with
          | nil => rw [show unitD 30 [92] = none from rfl] at ht; cases ht
          | cons b r =>
            have : t = r := (Option.some.inj ht).symm
            subst this
            exact hw2
        · split at h
          · obtain ⟨l, h1, h⟩ := Rs.and_ok h
            injection h with h
            injection h with e1 e2
            subst e1 e2
            obtain ⟨g1, g2⟩ := dblF_hard h1
            refine ⟨?_, .inl ⟨fun p hp => .inr (g1 p hp), g2⟩⟩
            rw [show r.length + 1 - t.length = (c :: r).length - t.length from rfl, hdr]
            exact hw2
          · injection h with h
            injection h with e1 e2
            subst e1 e2
            refine ⟨?_, .inl ⟨fun p hp => by rw [List.mem_singleton.1 hp]; exact .inr rfl, by simp⟩⟩
            rw [show r.length + 1 - t.length = (c :: r).length - t.length from rfl, hdr]
            exact hw2
    · rename_i hc
      injection h with h
      injection h with e1 e2
      subst e1 e2
      simp only [not_or] at hc
      refine ⟨?_, .inr ⟨rfl, rfl, hend⟩⟩
      rw [word_byte hend hc.1 hc.2.1 hc.2.2 fun e => absurd e hc36] at hw
      exact hw
theorem loop_word {P : Txt → Rs (List Pt)} {s0 : Txt} : ∀ (n : Nat) (acc : List Pt) (s : Txt) (l : List Pt), loopF (outOne P) n acc s = .ok l → wordD s = some [] → NE acc → Lead s0 acc s → NE l ∧ Lead s0 l []
  | 0, _, _, _, h, _, _, _ => by cases h
  | n + 1, acc, [], l, h, _, h1, h2 => by
    injection h with h
    subst h
    exact ⟨h1, h2⟩
  | n + 1, acc, c :: r, l, h, hw, h1, h2 => by
    simp only [loopF] at h
    obtain ⟨⟨ps, k⟩, h3, h⟩ := Rs.and_ok h
    obtain ⟨g1, g2⟩ := out_word h3 hw
    dsimp only at h
    rcases g2 with ⟨g2, g3⟩ | ⟨rfl, rfl, g4⟩
    · exact loop_word n _ _ l h g1 (h1.fold g2) (h2.fold g2 g3 _)
    · refine loop_word n _ _ l h g1 (h1.add fun _ _ d hd => ?_) h2.soft
      rw [List.mem_singleton.1 hd]
      exact g4
theorem wp_word {L : Nat} {t : Txt} {l : List Pt} (h : wpL (L + 1) t = .ok l) (hw : wordD t = some []) : NE l ∧ Lead t l [] :=
  loop_word _ _ _ _ h hw (fun p hp => by cases hp) ⟨fun _ => rfl, fun p r e => by cases e⟩
structure TkW (t : Txt) : Prop where
  ne : t ≠ []
  len : t.length ≤ 40
  w : wordD t = some []
  hash : t.head? ≠ some 35
def TkOk (s : Ts) : Prop := ∀ x ∈ s, x.1 = 0 → TkW x.2
theorem TkOk.tail {x : Nat × Txt} {s : Ts} (h : TkOk (x :: s)) : TkOk s := fun y hy => h y (List.mem_cons_of_mem _ hy)
theorem TkOk.suf {s t : Ts} (h : TkOk s) (hs : t <:+ s) : TkOk t := fun y hy => h y (hs.subset hy)
structure LW (u : Txt) : Prop where
  lex : ∀ z, WEnd z → wordD (u ++ z) = some z
  head : ∃ a y, u = a :: y ∧ a ≠ 35 ∧ isEnd a = false
structure PW (l : List Pt) : Prop where
  back : wpL 30 (prL l) = .ok l
  lex : ∀ z, WEnd z → wordD (prL l ++ z) = some z
theorem okl_of {t : Txt} {l : List Pt} (hl : t.length ≤ 40) (h : wpL 30 t = .ok l) : OkL 30 false 22 l ∧ (∀ c, hd l = some c → t.head? = some c) ∧ (l = [] → t = []) := parsed 30 h (by omega) (by decide) (fun e => by cases e)
theorem pw_of {t : Txt} {l : List Pt} (hl : t.length ≤ 40) (hw : wordD t = some []) (h : wpL 30 t = .ok l) : PW l := by
  obtain ⟨⟨h1, h2⟩, _⟩ := okl_of hl h
  exact ⟨wp_back hl h, fun z hz => word_parts (by decide) hz h1 h2 (wp_word h hw).1⟩
theorem hard_head {O : Nat → List Pt → Prop} {b : Bool} {M : Nat} {p : Pt} (h : VP O b M p) (hk : Hard p) : ∃ c r, p.pr = c :: r ∧ (c = 39 ∨ c = 34 ∨ c = 36) := by
  by_cases h0 : p.k = 0
  · have hq : p.q = true := hk.elim (fun e => absurd h0 e) id
    rw [pr_text p h0, if_pos hq]
    exact ⟨39, _, rfl, .inl rfl⟩
  · rw [pr_body p h0]
    by_cases hq : p.q = true
    · rw [hq]
      exact ⟨34, _, rfl, .inr (.inl rfl)⟩
    · have hq : p.q = false := by simpa using hq
      rw [hq]
      obtain ⟨r, hr⟩ := body_head h h0
      exact ⟨36, r, hr, .inr (.inr rfl)⟩
theorem soft_or (p : Pt) : Hard p ∨ (p.k = 0 ∧ p.q = false) := by
  unfold Hard
  by_cases h : p.k = 0
  · by_cases hq : p.q = true
    · exact .inl (.inr hq)
    · exact .inr ⟨h, by simpa using hq⟩
  · exact .inl (.inl h)
theorem lw_of {t : Txt} {l : List Pt} (ht : TkW t) (h : wpL 30 t = .ok l) : LW (prL l) := by
  obtain ⟨⟨h1, h2⟩, h3, h4⟩ := okl_of ht.len h
  refine ⟨(pw_of ht.len ht.w h).lex, ?_⟩
  cases l with
  | nil => exact absurd (h4 rfl) ht.ne
  | cons p r =>
    have hv := h2 p (List.mem_cons_self ..)
    rcases soft_or p with hp | ⟨hk, hq⟩
    · obtain ⟨c, y, e, hc⟩ := hard_head hv hp
      refine ⟨c, y ++ prL r, by simp only [prL, e, List.cons_append], ?_, ?_⟩
      · rcases hc with rfl | rfl | rfl <;> decide
      · rcases hc with rfl | rfl | rfl <;> decide
    · have hpt := (vp_text hv hk hq).2.2.2.1
      obtain ⟨a, y, ha⟩ := List.exists_cons_of_ne_nil hpt
      refine ⟨a, y ++ prL r, ?_, ?_, ?_⟩
      · simp only [prL]
        rw [pr_text p hk, if_neg (by rw [hq]; decide), ha]
        rfl
      · rintro rfl
        have : hd (p :: r) = some 35 := by
          show (if p.k = 0 ∧ p.q = false then p.t.head? else none) = _
          rw [if_pos ⟨hk, hq⟩, ha]
          rfl
        exact ht.hash (h3 _ this)
      · exact (wp_word h ht.w).1 p (List.mem_cons_self ..) hk hq a (by rw [ha]; exact List.mem_cons_self ..)
theorem plain_word {t : Txt} {l : List Pt} (hl : t.length ≤ 40) (hw : wordD t = some []) (h : wpL 30 t = .ok l) (hne : prL l ≠ []) (hp : ∀ c ∈ prL l, c ≠ 39 ∧ c ≠ 34 ∧ c ≠ 36) : t = prL l := by
  obtain ⟨⟨h1, h2⟩, _⟩ := okl_of hl h
  have soft : ∀ p ∈ l, p.k = 0 ∧ p.q = false := by
    intro p hpm
    rcases soft_or p with hh | hh
    · exfalso
      obtain ⟨c, y, e, hc⟩ := hard_head (h2 p hpm) hh
      have hmem : c ∈ prL l := by
        obtain ⟨a, b, rfl⟩ := List.append_of_mem hpm
        rw [prL_append]
        simp only [prL, e]
        simp
      have := hp c hmem
      rcases hc with rfl | rfl | rfl
      · exact this.1 rfl
      · exact this.2.1 rfl
      · exact this.2.2 rfl
    · exact hh
  match l, hne with
  | [], hne => exact absurd rfl hne
  | [p], _ =>
    have hs := soft p (List.mem_cons_self ..)
    obtain ⟨y, e1, e2⟩ := (wp_word h hw).2.2 p [] rfl hs.1 hs.2
    rw [e1, e2 rfl]
    simp only [prL]
    rw [pr_text p hs.1, if_neg (by rw [hs.2]; decide)]
  | p :: q :: r, _ =>
    have hs := soft p (List.mem_cons_self ..)
    have hs2 := soft q (by simp)
    exact absurd ⟨hs2.1, hs.1, hs.2.trans hs2.2.symm⟩ h1.1
theorem asg_form {t n v : Txt} (h : asgF t = some (n, v)) : 0 < nameN t ∧ n = t.take (nameN t) ∧ t = n ++ 61 :: v := by
  unfold asgF at h
  split at h
  · rename_i hc
    injection h with h
    injection h with e1 e2
    refine ⟨hc.1, e1.symm, ?_⟩
    obtain ⟨hlt, he⟩ := List.getElem?_eq_some_iff.1 hc.2
    rw [← e1, ← e2]
    conv => lhs; rw [← List.take_append_drop (nameN t) t]
    rw [List.drop_eq_getElem_cons hlt, he]
  · cases h
theorem nameN_app {n x : Txt} (h0 : 0 < nameN n) (h1 : nameN n = n.length) (hx : ∀ c y, x = c :: y → isNam c = false) : nameN (n ++ x) = n.length := by
  cases n with
  | nil => exact absurd h0 (by decide)
  | cons c r =>
    simp only [nameN] at h0 h1
    split at h0
    · rename_i hc
      rw [if_pos hc] at h1
      simp only [List.length_cons, Nat.add_right_cancel_iff] at h1
      simp only [List.cons_append, nameN]
      rw [if_pos hc, takeWhile_stop (takeWhile_all h1) hx]
      rfl
    · exact absurd h0 (by decide)
theorem take_name {t : Txt} (h : 0 < nameN t) : 0 < nameN (t.take (nameN t)) ∧ nameN (t.take (nameN t)) = (t.take (nameN t)).length := by
  have hle := nameN_le t
  cases t with
  | nil => exact absurd h (by decide)
  | cons c r =>
    simp only [nameN] at h hle ⊢
    split at h
    · rename_i hc
      rw [if_pos hc] at hle ⊢
      rw [List.take_succ_cons, tw_take]
      simp only
      rw [if_pos hc, tw_twice]
      exact ⟨Nat.succ_pos _, by simp⟩
    · exact absurd h (by decide)
structure PA (a : Txt × List Pt) : Prop where
  n0 : 0 < nameN a.1
  n1 : nameN a.1 = a.1.length
  v : PW a.2
theorem name_all {n : Txt} (h1 : nameN n = n.length) : ∀ c ∈ n, isNam c = true := by
  have := name_take (r := n)
  rw [h1, List.take_length] at this
  exact this
theorem pa_of {t n v : Txt} {l : List Pt} (ht : TkW t) (h : asgF t = some (n, v)) (hl : wpL 30 v = .ok l) : PA (n, l) := by
  obtain ⟨h0, e1, e2⟩ := asg_form h
  obtain ⟨g1, g2⟩ := take_name h0
  rw [← e1] at g1 g2
  have hw := ht.w
  have hlen := ht.len
  rw [e2] at hw hlen
  rw [word_names _ _ fun c hc => .inl (name_all g2 c hc), word_byte (by decide) (by decide) (by decide) (by decide) fun e => absurd e (by decide)] at hw
  exact ⟨g1, g2, pw_of (by simp only [List.length_append, List.length_cons] at hlen; omega) hw hl⟩
theorem PA.lw {a : Txt × List Pt} (h : PA a) : LW (prA a) := by
  obtain ⟨n, l⟩ := a
  obtain ⟨h0, h1, hv⟩ := h
  refine ⟨fun z hz => ?_, ?_⟩
  · show wordD (n ++ [61] ++ prL l ++ z) = some z
    rw [List.append_assoc, List.append_assoc, word_names _ _ fun c hc => .inl (name_all h1 c hc)]
    show wordD (61 :: (prL l ++ z)) = some z
    rw [word_byte (by decide) (by decide) (by decide) (by decide) fun e => absurd e (by decide)]
    exact hv.lex z hz
  · cases n with
    | nil => exact absurd (show 0 < nameN [] from h0) (by decide)
    | cons c r =>
      have hc := name_all h1 c (List.mem_cons_self ..)
      refine ⟨c, r ++ [61] ++ prL l, rfl, ?_, nam_end (.inl hc)⟩
      rintro rfl
      revert hc
      decide
theorem PA.asg {a : Txt × List Pt} (h : PA a) : asgF (prA a) = some (a.1, prL a.2) := by
  obtain ⟨n, l⟩ := a
  obtain ⟨h0, h1, hv⟩ := h
  have e : prA (n, l) = n ++ 61 :: prL l := by simp [prA]
  have hn : nameN (n ++ 61 :: prL l) = n.length := nameN_app h0 h1 fun c y e => by injection e with e _; rw [← e]; decide
  have h0 : 0 < nameN n := h0
  have h1 : nameN n = n.length := h1
  rw [e]
  unfold asgF
  rw [hn, if_pos ⟨by omega, by rw [List.getElem?_append_right (Nat.le_refl _), Nat.sub_self]; rfl⟩, List.take_left, ← List.drop_drop, List.drop_left]
  rfl
theorem asg_none {t : Txt} {l : List Pt} (hl : t.length ≤ 40) (hw : wordD t = some []) (h : wpL 30 t = .ok l) (ha : asgF t = none) : asgF (prL l) = none := by
  obtain ⟨⟨h1, h2⟩, _⟩ := okl_of hl h
  cases e : asgF (prL l) with
  | none => rfl
  | some y =>
    exfalso
    obtain ⟨n, v⟩ := y
    obtain ⟨g0, g1, g2⟩ := asg_form e
    obtain ⟨k1, k2⟩ := take_name g0
    rw [← g1] at k1 k2
    have hnam := name_all k2
    cases l with
    | nil => exact absurd g0 (by decide)
    | cons p r =>
      have bad : ∀ {c : UInt8}, (c = 39 ∨ c = 34 ∨ c = 36) → isNam c = false ∧ c ≠ 61 := by rintro c (rfl | rfl | rfl) <;> decide
      have hv := h2 p (List.mem_cons_self ..)
      have hpos : 0 < n.length := by omega
      rcases soft_or p with hp | ⟨hk, hq⟩
      · obtain ⟨c, y, e1, hc⟩ := hard_head hv hp
        simp only [prL, e1, List.cons_append] at g2
        cases n with
        | nil => exact absurd hpos (by decide)
        | cons a n =>
          injection g2 with g2 _
          have := hnam a (List.mem_cons_self ..)
          rw [← g2, (bad hc).1] at this
          cases this
      · obtain ⟨z, e1, e2⟩ := (wp_word h hw).2.2 p r rfl hk hq
        have hpr : prL (p :: r) = p.t ++ prL r := by
          simp only [prL]
          rw [pr_text p hk, if_neg (by rw [hq]; decide)]
        rw [hpr] at g2
        -- the name and its sign stand in the first part
        have hin : n.length < p.t.length := by
          rcases Nat.lt_or_ge n.length p.t.length with hh | hh
          · exact hh
          · exfalso
            have hget : (p.t ++ prL r)[p.t.length]? = (n ++ 61 :: v)[p.t.length]? := by rw [g2]
            rw [List.getElem?_append_right (Nat.le_refl _), Nat.sub_self] at hget
            cases r with
            | nil =>
              have := congrArg List.length g2
              simp only [prL, List.append_nil, List.length_append, List.length_cons] at this
              omega
            | cons q r =>
              have hq2 : Hard q := by
                rcases soft_or q with hh2 | hh2
                · exact hh2
                · exact absurd ⟨hh2.1, hk, hq.trans hh2.2.symm⟩ h1.1
              obtain ⟨c, y, e3, hc⟩ := hard_head (h2 q (by simp)) hq2
              simp only [prL, e3, List.cons_append, List.getElem?_cons_zero] at hget
              rcases Nat.lt_or_ge p.t.length n.length with hh2 | hh2
              · rw [List.getElem?_append_left hh2] at hget
                have := hnam c (List.mem_of_getElem? hget.symm)
                rw [(bad hc).1] at this
                cases this
              · rw [List.getElem?_append_right hh2, show p.t.length - n.length = 0 by omega] at hget
                exact (bad hc).2 (Option.some.inj hget)
        have ht : t = n ++ 61 :: (v.take (p.t.length - n.length - 1) ++ z) := by
          have hp2 : p.t = (n ++ 61 :: v).take p.t.length := by rw [← g2, List.take_left]
          rw [e1]
          conv => lhs; rw [hp2]
          rw [List.take_append, List.take_of_length_le (by omega : n.length ≤ p.t.length)]
          obtain ⟨m, hm⟩ : ∃ m, p.t.length - n.length = m + 1 := ⟨p.t.length - n.length - 1, by omega⟩
          rw [hm, List.take_succ_cons, Nat.add_sub_cancel]
          simp
        have hn : nameN t = n.length := by rw [ht]; exact nameN_app k1 k2 fun c y e => by injection e with e _; rw [← e]; decide
        unfold asgF at ha
        rw [hn, if_pos ⟨hpos, by rw [ht, List.getElem?_append_right (Nat.le_refl _), Nat.sub_self]; rfl⟩] at ha
        cases ha
def Lx (T : Ts) (s : Txt) : Prop := ∀ z, WEnd z → toks (s ++ z) = (toks z).map (T ++ ·)
theorem LW.lx {u : Txt} (h : LW u) : Lx [(0, u)] u := by
  intro z hz
  obtain ⟨a, y, rfl, h1, h2⟩ := h.head
  have hw := h.lex z hz
  have ne : ¬ (a = 32 ∨ a = 9) ∧ ¬ a = 35 ∧ ¬ a = 10 := by
    refine ⟨fun e => ?_, h1, fun e => ?_⟩
    · rcases e with rfl | rfl <;> (revert h2; decide)
    · subst e; revert h2; decide
  exact toks_one (tokOne_word (p := a :: y) (t := z) ne h2 rfl hw)
theorem WEnd.app {s z : Txt} (h : WEnd s) (hz : WEnd z) : WEnd (s ++ z) := by
  rcases h with rfl | ⟨c, y, rfl, hc⟩
  · exact hz
  · exact .inr ⟨c, y ++ z, rfl, hc⟩
theorem WEnd.sp {y : Txt} : WEnd (32 :: y) := .inr ⟨32, y, rfl, .inl rfl⟩
theorem WEnd.semi {y : Txt} : WEnd (59 :: y) := .inr ⟨59, y, rfl, .inr rfl⟩
theorem toks_sp (s : Txt) : toks (32 :: s) = toks s := by
  rw [toks_one (l := []) (t := s) rfl, map_nil]
theorem Lx.nil : Lx [] [] := fun z _ => by rw [map_nil]; rfl
theorem Lx.app {T U : Ts} {s t : Txt} (h1 : Lx T s) (h2 : Lx U t) (ht : WEnd t) : Lx (T ++ U) (s ++ t) := by
  intro z hz
  rw [List.append_assoc, h1 _ (ht.app hz), h2 z hz, map_app]
theorem Lx.sp {T : Ts} {s : Txt} (h : Lx T s) : Lx T (32 :: s) := fun z hz => by
  rw [List.cons_append, toks_sp]
  exact h z hz
theorem Lx.unsp {T : Ts} {s : Txt} (h : Lx T (32 :: s)) : Lx T s := fun z hz => by
  have := h z hz
  rwa [List.cons_append, toks_sp] at this
theorem Lx.cat {T U : Ts} {s t : Txt} (h1 : Lx T s) (h2 : Lx U t) : Lx (T ++ U) (s ++ 32 :: t) := h1.app h2.sp .sp
theorem toks_semi (s : Txt) : toks (59 :: 32 :: s) = (toks s).map ([(1, tSemi)] ++ ·) := by
  rw [toks_one (l := [(1, [59])]) (t := 32 :: s) rfl, toks_sp]
theorem Lx.semi {T : Ts} {s : Txt} (h : Lx T s) : Lx ((1, tSemi) :: T) (59 :: 32 :: s) := fun z hz => by
  rw [List.cons_append, List.cons_append, toks_semi, h z hz, map_app]
  rfl
theorem Lx.cats {T U : Ts} {s t : Txt} (h1 : Lx T s) (h2 : Lx U t) : Lx (T ++ (1, tSemi) :: U) (s ++ 59 :: 32 :: t) := h1.app h2.semi .semi
theorem Lx.semi2 : Lx [(1, tSemi2)] [59, 59] := fun z _ => toks_one (l := [(1, [59, 59])]) (t := z) rfl
theorem Lx.op {o : Txt} (ho : o ∈ [tOpen, tShut, tPipe, tAnd, tOr, tLess, tMore, tMore2]) : Lx [(1, o)] o := by
  intro z hz
  simp only [List.mem_cons, List.not_mem_nil, or_false] at ho
  rcases hz with rfl | ⟨c, y, rfl, rfl | rfl⟩ <;> rcases ho with rfl | rfl | rfl | rfl | rfl | rfl | rfl | rfl <;> exact toks_one rfl
def plB (c : UInt8) : Bool := !isEnd c && decide (c ≠ 92 ∧ c ≠ 39 ∧ c ≠ 34 ∧ c ≠ 36)
theorem word_plain : ∀ (u z : Txt), u.all plB = true → wordD (u ++ z) = wordD z
  | [], _, _ => rfl
  | c :: u, z, h => by
    rw [List.all_cons, Bool.and_eq_true] at h
    obtain ⟨h1, h2⟩ := h
    unfold plB at h1
    rw [Bool.and_eq_true, Bool.not_eq_true'] at h1
    obtain ⟨h3, h4⟩ := h1
    have h4 := of_decide_eq_true h4
    rw [List.cons_append, word_byte h3 h4.1 h4.2.1 h4.2.2.1 fun e => absurd e h4.2.2.2]
    exact word_plain u z h2
theorem LW.plain {u : Txt} (h : u.all plB = true) (h0 : u ≠ []) (h1 : u.head? ≠ some 35) : LW u := by
  refine ⟨fun z hz => by rw [word_plain _ _ h]; exact wordD_ends hz.ends, ?_⟩
  obtain ⟨a, y, rfl⟩ := List.exists_cons_of_ne_nil h0
  refine ⟨a, y, rfl, fun e => h1 (by rw [e]; rfl), ?_⟩
  rw [List.all_cons, Bool.and_eq_true] at h
  have := h.1
  unfold plB at this
  rw [Bool.and_eq_true, Bool.not_eq_true'] at this
  exact this.1
theorem Lx.key {u : Txt} (h : u.all plB = true) (h0 : u ≠ []) (h1 : u.head? ≠ some 35) : Lx [(0, u)] u := (LW.plain h h0 h1).lx
theorem isName_of {t : Txt} (h : isName t = true) : t ≠ [] ∧ nameN t = t.length := of_decide_eq_true h
theorem LW.name {t : Txt} (h : isName t = true) : LW t := by
  obtain ⟨h0, h1⟩ := isName_of h
  have hall := name_all h1
  obtain ⟨a, y, rfl⟩ := List.exists_cons_of_ne_nil h0
  refine ⟨fun z hz => by rw [word_names _ _ fun c hc => .inl (hall c hc)]; exact wordD_ends hz.ends, a, y, rfl, ?_, nam_end (.inl (hall a (List.mem_cons_self ..)))⟩
  rintro rfl
  have := hall 35 (List.mem_cons_self ..)
  revert this
  decide
theorem Lx.func {t : Txt} (h : isName t = true) {T : Ts} {s : Txt} (hs : Lx T s) : Lx ((0, t) :: (1, tOpen) :: (1, tShut) :: T) (t ++ 40 :: 41 :: 32 :: s) := by
  intro z hz
  obtain ⟨h0, h1⟩ := isName_of h
  have hall := name_all h1
  obtain ⟨a, y, e, h35, hen⟩ := (LW.name h).head
  have hw : wordD (t ++ (40 :: 41 :: 32 :: s ++ z)) = some (40 :: 41 :: 32 :: s ++ z) := by
    rw [word_names _ _ fun c hc => .inl (hall c hc)]
    exact wordD_ends rfl
  have ne : ¬ (a = 32 ∨ a = 9) ∧ ¬ a = 35 ∧ ¬ a = 10 := by
    refine ⟨fun e => ?_, h35, fun e => ?_⟩
    · rcases e with rfl | rfl <;> (revert hen; decide)
    · subst e; revert hen; decide
  subst e
  rw [List.append_assoc]
  have g1 : toks (a :: y ++ (40 :: 41 :: 32 :: s ++ z)) = (toks (40 :: 41 :: 32 :: s ++ z)).map ([(0, a :: y)] ++ ·) := toks_one (tokOne_word (p := a :: y) ne hen rfl hw)
  have g2 : toks (40 :: 41 :: 32 :: s ++ z) = (toks (41 :: 32 :: s ++ z)).map ([(1, tOpen)] ++ ·) := toks_one rfl
  have g3 : toks (41 :: 32 :: s ++ z) = (toks (32 :: s ++ z)).map ([(1, tShut)] ++ ·) := toks_one rfl
  rw [g1, g2, g3, List.cons_append, toks_sp, hs z hz, map_app, map_app, map_app]
  rfl
theorem lx_flat {α : Type} {f : α → Ts} {g : α → Txt} : ∀ {l : List α}, (∀ x ∈ l, Lx (f x) (g x)) → Lx (l.flatMap f) (l.flatMap fun x => 32 :: g x) ∧ WEnd (l.flatMap fun x => 32 :: g x)
  | [], _ => ⟨Lx.nil, .inl rfl⟩
  | x :: l, h => by
    obtain ⟨h1, h2⟩ := lx_flat (l := l) fun y hy => h y (List.mem_cons_of_mem _ hy)
    simp only [List.flatMap_cons]
    exact ⟨((h x (List.mem_cons_self ..)).sp).app h1 h2, .inr ⟨32, _, rfl, .inl rfl⟩⟩
theorem join_flat (l : List Txt) (h : l ≠ []) : 32 :: joinT [32] l = l.flatMap fun x => 32 :: x := by
  cases l with
  | nil => exact absurd rfl h
  | cons x r => simp only [joinT, List.flatMap_cons, List.cons_append, List.nil_append]
def FolIn (L : List Txt) (z : Ts) : Prop := z = [] ∨ ∃ t r, z = (1, t) :: r ∧ t ∈ L
abbrev Fol := FolIn [tPipe, tAnd, tOr, tSemi, tShut, tSemi2]
abbrev FolP := FolIn [tAnd, tOr, tSemi, tShut, tSemi2]
abbrev FolA := FolIn [tSemi, tShut, tSemi2]
theorem FolIn.mono {L M : List Txt} {z : Ts} (h : FolIn L z) (hs : ∀ t ∈ L, t ∈ M) : FolIn M z := by
  rcases h with h | ⟨t, r, e, ht⟩
  · exact .inl h
  · exact .inr ⟨t, r, e, hs t ht⟩
theorem FolP.fol {z : Ts} (h : FolP z) : Fol z := h.mono (by decide)
theorem FolA.folP {z : Ts} (h : FolA z) : FolP z := h.mono (by decide)
theorem FolIn.no {L : List Txt} {z : Ts} (h : FolIn L z) {k : Nat} {t : Txt} (hn : k ≠ 1 ∨ t ∉ L) : isT k t z = false := by
  refine decide_eq_false fun e => ?_
  rcases h with rfl | ⟨u, r, rfl, hu⟩
  · cases e
  · injection e with e
    injection e with e1 e2
    subst e1 e2
    exact hn.elim (fun h => h rfl) fun h => h hu
theorem isT_hd {k k' : Nat} {t t' : Txt} {r : Ts} (h : ¬ (k' = k ∧ t' = t)) : isT k t ((k', t') :: r) = false := by
  refine decide_eq_false fun e => ?_
  injection e with e
  injection e with e1 e2
  exact h ⟨e1, e2⟩
theorem isT_self {k : Nat} {t : Txt} {r : Ts} : isT k t ((k, t) :: r) = true := decide_eq_true rfl
def HdOk (T : Ts) : Prop := ∃ k t r, T = (k, t) :: r ∧ (k = 0 ∧ t ∉ closL ∧ t ≠ tBang ∨ k = 1 ∧ t ∈ [tOpen, tLess, tMore, tMore2])
def HdA (T : Ts) : Prop := ∃ k t r, T = (k, t) :: r ∧ (k = 0 ∧ t ∉ closL ∨ k = 1 ∧ t ∈ [tOpen, tLess, tMore, tMore2])
theorem HdOk.a {T : Ts} (h : HdOk T) : HdA T := by
  obtain ⟨k, t, r, e, h⟩ := h
  exact ⟨k, t, r, e, h.imp (fun h => ⟨h.1, h.2.1⟩) id⟩
theorem HdOk.app {T : Ts} (h : HdOk T) (z : Ts) : HdOk (T ++ z) := by
  obtain ⟨k, t, r, rfl, h⟩ := h
  exact ⟨k, t, r ++ z, rfl, h⟩
theorem HdA.app {T : Ts} (h : HdA T) (z : Ts) : HdA (T ++ z) := by
  obtain ⟨k, t, r, rfl, h⟩ := h
  exact ⟨k, t, r ++ z, rfl, h⟩
theorem HdOk.bang {T : Ts} (h : HdOk T) : isT 0 tBang T = false := by
  obtain ⟨k, t, r, rfl, h⟩ := h
  refine isT_hd fun e => ?_
  rcases h with h | h
  · exact h.2.2 e.2
  · exact absurd (h.1.symm.trans e.1) (by decide)
theorem HdA.ends {T : Ts} (h : HdA T) : endsF T = false := by
  obtain ⟨k, t, r, rfl, ⟨rfl, h⟩ | ⟨rfl, h⟩⟩ := h
  · have : closL.contains t = false := by simpa using h
    simp only [endsF, this]
    rfl
  · simp only [List.mem_cons, List.not_mem_nil, or_false] at h
    rcases h with rfl | rfl | rfl | rfl <;> rfl
theorem HdA.line {T : Ts} (h : HdA T) : linesF T = T := by
  obtain ⟨k, t, r, rfl, h⟩ := h
  simp only [linesF]
  rw [if_neg]
  intro e
  injection e with e1 _
  rcases h with h | h
  · exact absurd (h.1.symm.trans e1) (by decide)
  · exact absurd (h.1.symm.trans e1) (by decide)
theorem HdOk.line {T : Ts} (h : HdOk T) : linesF T = T := h.a.line
theorem line_word {t : Txt} {r : Ts} : linesF ((0, t) :: r) = (0, t) :: r := by
  simp only [linesF]
  rw [if_neg]
  intro e
  injection e with e1 _
  exact absurd e1 (by decide)
theorem line_op {t : Txt} {r : Ts} : linesF ((1, t) :: r) = (1, t) :: r := by
  simp only [linesF]
  rw [if_neg]
  intro e
  injection e with e1 _
  exact absurd e1 (by decide)
def W : Ts → Nat
  | [] => 0
  | x :: r => 20 + 15 * x.2.length + W r
theorem W_lines : ∀ s : Ts, W (linesF s) ≤ W s
  | [] => Nat.le_refl _
  | x :: r => by
    have := W_lines r
    simp only [linesF]
    split
    · simp only [W]; omega
    · exact Nat.le_refl _
theorem W_tail (s : Ts) : W s.tail ≤ W s := by
  cases s with
  | nil => exact Nat.le_refl _
  | cons x r => simp only [List.tail_cons, W]; omega
theorem W_took {k : Nat} {t : Txt} {s : Ts} (h : isT k t s = true) : W s.tail + 20 + 15 * t.length = W s := by
  rw [isT_cons h]
  simp only [List.tail_cons, W]
  omega
structure CmT (cmd : Pr Nd) (x : Nd) (T : Ts) : Prop where
  lex : Lx T (prN x)
  back : ∀ z, Fol z → cmd (T ++ z) = .ok (x, z)
  head : HdOk T
def Cm (cmd : Pr Nd) (x : Nd) : Prop := ∃ T, CmT cmd x T
def Good (cmd : Pr Nd) : Prop := ∀ s x r, TkOk s → cmd s = .ok (x, r) → Cm cmd x ∧ (prN x).length + 4 + W r ≤ W s ∧ TkOk r
structure Wk (l : List Pt) : Prop where
  lw : LW (prL l)
  back : wpL 30 (prL l) = .ok l
theorem wk_of {t : Txt} {l : List Pt} (ht : TkW t) (h : wpL 30 t = .ok l) : Wk l ∧ (prL l).length ≤ 12 * t.length := by
  refine ⟨⟨lw_of ht h, (pw_of ht.len ht.w h).back⟩, ?_⟩
  have := wpL_wt 30 _ _ h
  have := prL_len l
  omega
theorem parts_got {s r : Ts} {l : List Pt} (hs : TkOk s) (h : partsF s = .ok (l, r)) : Wk l ∧ (prL l).length + 20 + W r ≤ W s ∧ TkOk r := by
  match s with
  | [] => cases h
  | (k, t) :: y =>
    simp only [partsF] at h
    split at h
    · rename_i hk
      obtain ⟨m, h1, h⟩ := Rs.and_ok h
      injection h with h
      injection h with e1 e2
      subst e1 e2
      obtain ⟨g1, g2⟩ := wk_of (t := t) (hs (k, t) (List.mem_cons_self ..) hk) h1
      refine ⟨g1, ?_, hs.tail⟩
      simp only [W]
      omega
    · cases h
theorem parts_fwd {l : List Pt} (h : Wk l) (z : Ts) : partsF ((0, prL l) :: z) = .ok (l, z) := by
  simp only [partsF, if_true]
  rw [h.back]
  rfl
def rT (x : Txt × List Pt) : Ts := [(1, x.1), (0, prL x.2)]
def Rk (x : Txt × List Pt) : Prop := (x.1 = tLess ∨ x.1 = tMore ∨ x.1 = tMore2) ∧ Wk x.2
theorem redirB_cases {s : Ts} (h : redirB s = true) : ∃ t r, s = (1, t) :: r ∧ (t = tLess ∨ t = tMore ∨ t = tMore2) := by
  unfold redirB at h
  rw [Bool.or_eq_true, Bool.or_eq_true] at h
  rcases h with (h | h) | h
  · exact ⟨_, _, isT_cons h, .inl rfl⟩
  · exact ⟨_, _, isT_cons h, .inr (.inl rfl)⟩
  · exact ⟨_, _, isT_cons h, .inr (.inr rfl)⟩
theorem redir_got {s r : Ts} {x : Txt × List Pt} (hs : TkOk s) (hb : redirB s = true) (h : redirF s = .ok (x, r)) : Rk x ∧ (prR x).length + 20 + W r ≤ W s ∧ TkOk r := by
  obtain ⟨t, y, rfl, ht⟩ := redirB_cases hb
  simp only [redirF] at h
  obtain ⟨m, h1, h⟩ := Rs.and_ok h
  injection h with h
  injection h with e1 e2
  subst e1 e2
  obtain ⟨g1, g2, g3⟩ := parts_got hs.tail h1
  refine ⟨⟨ht, g1⟩, ?_, g3⟩
  simp only [W, prR, List.length_append, List.length_cons, List.length_nil]
  omega
theorem redir_b {x : Txt × List Pt} (h : Rk x) (z : Ts) : redirB ((1, x.1) :: z) = true := by
  unfold redirB
  rcases h.1 with e | e | e <;> rw [e, isT_self] <;> simp
theorem redir_fwd {x : Txt × List Pt} (h : Rk x) (z : Ts) : redirF ((1, x.1) :: (0, prL x.2) :: z) = .ok (x, z) := by
  simp only [redirF]
  rw [parts_fwd h.2]
  rfl
theorem rk_lx {x : Txt × List Pt} (h : Rk x) : Lx (rT x) (prR x) := by
  have := (Lx.op (o := x.1) (by rcases h.1 with e | e | e <;> rw [e] <;> decide)).cat h.2.lw.lx
  show Lx ([(1, x.1)] ++ [(0, prL x.2)]) (x.1 ++ [32] ++ prL x.2)
  rw [List.append_assoc]
  exact this
def lenR (l : List (Txt × List Pt)) : Nat := (l.map fun x => (prR x).length + 1).sum
theorem redirs_got : ∀ (n : Nat) (acc : List (Txt × List Pt)) (s r : Ts) (l : List (Txt × List Pt)), many redirsS n acc s = .ok (l, r) → TkOk s → ∃ m, l = acc ++ m ∧ (∀ x ∈ m, Rk x) ∧ lenR m + W r ≤ W s ∧ TkOk r
  | 0, _, _, _, _, h, _ => by cases h
  | n + 1, acc, s, r, l, h, hs => by
    simp only [many] at h
    obtain ⟨y, h1, h⟩ := Rs.and_ok h
    unfold redirsS at h1
    split at h1
    · rename_i hb
      obtain ⟨⟨x, s1⟩, h2, h1⟩ := Rs.and_ok h1
      injection h1 with h1
      subst h1
      obtain ⟨g1, g2, g3⟩ := redir_got hs hb h2
      obtain ⟨m, rfl, k1, k2, k3⟩ := redirs_got n _ _ _ _ h g3
      refine ⟨x :: m, by simp, fun y hy => ?_, ?_, k3⟩
      · rcases List.mem_cons.1 hy with rfl | hy
        · exact g1
        · exact k1 y hy
      · simp only [lenR, List.map_cons, List.sum_cons] at k2 ⊢
        omega
    · injection h1 with h1
      subst h1
      injection h with h
      injection h with e1 e2
      subst e1 e2
      exact ⟨[], by simp, by simp, by simp [lenR], hs⟩
theorem redirs_fwd {z : Ts} (hz : redirB z = false) : ∀ (l acc : List (Txt × List Pt)), (∀ x ∈ l, Rk x) → manyF redirsS acc (l.flatMap rT ++ z) = .ok (acc ++ l, z)
  | [], acc, _ => by
    rw [manyF_step redirsS_sinks]
    simp only [List.flatMap_nil, List.nil_append, redirsS, hz, Bool.false_eq_true, if_false, Rs.and, List.append_nil]
  | x :: l, acc, h => by
    have hx := h x (List.mem_cons_self ..)
    have ih := redirs_fwd hz l (acc ++ [x]) fun y hy => h y (List.mem_cons_of_mem _ hy)
    rw [manyF_step redirsS_sinks]
    simp only [List.flatMap_cons, rT, List.cons_append, List.nil_append, redirsS, redir_b hx, if_true]
    rw [redir_fwd hx]
    simp only [Rs.and]
    rw [ih]
    simp
theorem redirs_lx {l : List (Txt × List Pt)} (h : ∀ x ∈ l, Rk x) : Lx (l.flatMap rT) (l.flatMap fun x => 32 :: prR x) ∧ WEnd (l.flatMap fun x => 32 :: prR x) := lx_flat fun x hx => rk_lx (h x hx)
theorem Fol.redir {z : Ts} (h : Fol z) : redirB z = false := by
  unfold redirB
  rw [h.no (.inr (by decide)), h.no (.inr (by decide)), h.no (.inr (by decide))]
  rfl
def aT (x : Txt × List Pt) : Ts := [(0, prA x)]
def wT (l : List Pt) : Ts := [(0, prL l)]
def rsv : List Txt := [tThen, tElif, tElse, tFi, tDo, tDone, tEsac, tEcarb, tBang, tBrace, tIf, tWhile, tUntil, tFor, tCase]
abbrev SA := List (List Pt) × List (Txt × List Pt) × List (Txt × List Pt)
def lenW (l : List (List Pt)) : Nat := (l.map fun x => (prL x).length + 1).sum
def lenA (l : List (Txt × List Pt)) : Nat := (l.map fun x => (prA x).length + 1).sum
structure SI (s0 : Ts) (a : SA) (s : Ts) : Prop where
  ws : ∀ l ∈ a.1, Wk l
  al : ∀ x ∈ a.2.1, PA x
  rs : ∀ x ∈ a.2.2, Rk x
  hd : ∀ l r, a.1 = l :: r → asgF (prL l) = none
  rv : a.2.1 = [] → a.2.2 = [] → ∀ l r, a.1 = l :: r → prL l ∉ rsv
  st : a.1 = [] → a.2.1 = [] → a.2.2 = [] → s = s0
  tk : TkOk s
  len : lenW a.1 + lenA a.2.1 + lenR a.2.2 + 18 * (a.1.length + a.2.1.length + a.2.2.length) + W s ≤ W s0
theorem rsv_plain {u : Txt} (h : u ∈ rsv) : u ≠ [] ∧ ∀ c ∈ u, c ≠ 39 ∧ c ≠ 34 ∧ c ≠ 36 := by
  revert u
  decide
def snd (a : SA) : Nd := .mk 0 false [] a.1 a.2.1 a.2.2 [] []
theorem simple_end {a : SA} {s r : Ts} {x : Nd} {P : Prop} (h : (if a.1.length + a.2.1.length + a.2.2.length = 0 then Rs.bad (α := (SA × Ts) ⊕ (Nd × Ts)) 100 else .ok (.inr (snd a, s))) = .ok (.inr (x, r))) (hp : x = snd a → r = s → a.1.length + a.2.1.length + a.2.2.length ≠ 0 → P) : P := by
  split at h
  · cases h
  · rename_i h0
    injection h with h
    injection h with h
    injection h with e1 e2
    exact hp e1.symm e2.symm h0
theorem simple_inv : ∀ (n : Nat) (s0 : Ts), (∀ t r, s0 = (0, t) :: r → t ∉ rsv) → ∀ (a : SA) (s r : Ts) (x : Nd), many simpleS n a s = .ok (x, r) → SI s0 a s → ∃ b, x = snd b ∧ SI s0 b r ∧ b.1.length + b.2.1.length + b.2.2.length ≠ 0
  | 0, _, _, _, _, _, _, h, _ => by cases h
  | n + 1, s0, h0, a, s, r, x, h, hi => by
    simp only [many] at h
    obtain ⟨y, h1, h⟩ := Rs.and_ok h
    unfold simpleS at h1
    split at h1
    · rename_i hb
      obtain ⟨⟨z, s1⟩, h2, h1⟩ := Rs.and_ok h1
      injection h1 with h1
      subst h1
      obtain ⟨g1, g2, g3⟩ := redir_got hi.tk hb h2
      refine simple_inv n s0 h0 _ _ _ _ h ⟨hi.ws, hi.al, fun y hy => ?_, hi.hd, fun _ e => by simp at e, fun _ _ e => by simp at e, g3, ?_⟩
      · rcases List.mem_append.1 hy with hy | hy
        · exact hi.rs y hy
        · rw [List.mem_singleton.1 hy]; exact g1
      · have := hi.len
        simp only [lenR, List.map_append, List.sum_append, List.map_cons, List.map_nil, List.sum_cons, List.sum_nil, List.length_append, List.length_cons, List.length_nil] at this ⊢
        omega
    · match s, h1, hi with
      | [], h1, hi =>
        dsimp only at h1
        cases y with
        | inl y => split at h1 <;> simp at h1
        | inr y =>
          injection h with h
          subst h
          refine simple_end (a := a) (s := []) h1 fun e1 e2 e3 => ⟨a, e1, ?_, e3⟩
          rw [e2]
          exact hi
      | (k, t) :: s, h1, hi =>
        dsimp only at h1
        by_cases hk : k = 0
        · rw [if_pos hk] at h1
          subst hk
          have ht : TkW t := hi.tk (0, t) (List.mem_cons_self ..) rfl
          split at h1
          · rename_i v hv
            obtain ⟨l, h2, h1⟩ := Rs.and_ok h1
            injection h1 with h1
            subst h1
            obtain ⟨nm, u⟩ := v
            have ha : a.1 = [] := by
              by_cases ha : a.1 = []
              · exact ha
              · rw [if_neg ha] at hv; cases hv
            rw [if_pos ha] at hv
            have hp := pa_of ht hv h2
            obtain ⟨_, _, ef⟩ := asg_form hv
            refine simple_inv n s0 h0 _ _ _ _ h ⟨hi.ws, fun y hy => ?_, hi.rs, hi.hd, fun e => by simp at e, fun _ e => by simp at e, hi.tk.tail, ?_⟩
            · rcases List.mem_append.1 hy with hy | hy
              · exact hi.al y hy
              · rw [List.mem_singleton.1 hy]; exact hp
            · have hlen := hi.len
              have g1 := wpL_wt 30 _ _ h2
              have g2 := prL_len l
              have g3 := congrArg List.length ef
              simp only [List.length_append, List.length_cons] at g3
              simp only [W, lenA, List.map_append, List.sum_append, List.map_cons, List.map_nil, List.sum_cons, List.sum_nil, List.length_append, List.length_cons, List.length_nil, prA] at hlen ⊢
              dsimp only at g1 g2
              omega
          · rename_i hv
            obtain ⟨l, h2, h1⟩ := Rs.and_ok h1
            injection h1 with h1
            subst h1
            obtain ⟨g1, g2⟩ := wk_of ht h2
            refine simple_inv n s0 h0 _ _ _ _ h ⟨fun y hy => ?_, hi.al, hi.rs, fun y q e => ?_, fun e1 e2 y q e => ?_, fun e => by simp at e, hi.tk.tail, ?_⟩
            · rcases List.mem_append.1 hy with hy | hy
              · exact hi.ws y hy
              · rw [List.mem_singleton.1 hy]; exact g1
            · by_cases ha : a.1 = []
              · rw [if_pos ha] at hv
                have e : a.1 ++ [l] = y :: q := e
                rw [ha] at e
                injection e with e _
                subst e
                exact asg_none ht.len ht.w h2 hv
              · obtain ⟨b, q', hb⟩ := List.exists_cons_of_ne_nil ha
                have e : a.1 ++ [l] = y :: q := e
                rw [hb] at e
                injection e with e _
                subst e
                exact hi.hd _ _ hb
            · by_cases ha : a.1 = []
              · have e : a.1 ++ [l] = y :: q := e
                rw [ha] at e
                injection e with e _
                subst e
                intro hin
                obtain ⟨p1, p2⟩ := rsv_plain hin
                have := plain_word ht.len ht.w h2 p1 p2
                exact h0 t s (hi.st ha e1 e2).symm (this ▸ hin)
              · obtain ⟨b, q', hb⟩ := List.exists_cons_of_ne_nil ha
                have e : a.1 ++ [l] = y :: q := e
                rw [hb] at e
                injection e with e _
                subst e
                exact hi.rv e1 e2 _ _ hb
            · have hlen := hi.len
              simp only [W, lenW, List.map_append, List.sum_append, List.map_cons, List.map_nil, List.sum_cons, List.sum_nil, List.length_append, List.length_cons, List.length_nil] at hlen ⊢
              omega
        · rw [if_neg hk] at h1
          cases y with
          | inl y => split at h1 <;> simp at h1
          | inr y =>
            injection h with h
            subst h
            refine simple_end (a := a) (s := (k, t) :: s) h1 fun e1 e2 e3 => ⟨a, e1, ?_, e3⟩
            rw [e2]
            exact hi
theorem simple_got {s r : Ts} {x : Nd} (hs : TkOk s) (hr : ∀ t r, s = (0, t) :: r → t ∉ rsv) (h : simpleF s = .ok (x, r)) : ∃ b, x = snd b ∧ SI s b r ∧ b.1.length + b.2.1.length + b.2.2.length ≠ 0 :=
  simple_inv _ s hr _ _ _ _ h ⟨by simp, by simp, by simp, by simp, by simp, fun _ _ _ => rfl, hs, by simp [lenW, lenA, lenR]⟩
theorem sim_r {z : Ts} : ∀ (l acc : List (Txt × List Pt)), (∀ x ∈ l, Rk x) → manyF simpleS ([], [], acc) (l.flatMap rT ++ z) = manyF simpleS ([], [], acc ++ l) z
  | [], acc, _ => by simp
  | x :: l, acc, h => by
    have hx := h x (List.mem_cons_self ..)
    have ih := sim_r (z := z) l (acc ++ [x]) fun y hy => h y (List.mem_cons_of_mem _ hy)
    rw [manyF_step simpleS_sinks]
    simp only [List.flatMap_cons, rT, List.cons_append, List.nil_append, simpleS, redir_b hx, if_true]
    rw [redir_fwd hx]
    simp only [Rs.and]
    rw [ih]
    simp
theorem redir_word {t : Txt} {z : Ts} : redirB ((0, t) :: z) = false := by
  unfold redirB
  rw [isT_hd (by simp), isT_hd (by simp), isT_hd (by simp)]
  rfl
theorem sim_a {z : Ts} (rs : List (Txt × List Pt)) : ∀ (l acc : List (Txt × List Pt)), (∀ x ∈ l, PA x) → manyF simpleS ([], acc, rs) (l.flatMap aT ++ z) = manyF simpleS ([], acc ++ l, rs) z
  | [], acc, _ => by simp
  | x :: l, acc, h => by
    have hx := h x (List.mem_cons_self ..)
    have ih := sim_a (z := z) rs l (acc ++ [x]) fun y hy => h y (List.mem_cons_of_mem _ hy)
    rw [manyF_step simpleS_sinks]
    simp only [List.flatMap_cons, aT, List.cons_append, List.nil_append, simpleS, redir_word, Bool.false_eq_true, if_false, if_true]
    rw [hx.asg]
    dsimp only
    rw [hx.v.back]
    simp only [Rs.and]
    rw [ih]
    simp
theorem sim_w {z : Ts} (al rs : List (Txt × List Pt)) : ∀ (l acc : List (List Pt)), (∀ x ∈ l, Wk x) → (acc = [] → ∀ x r, l = x :: r → asgF (prL x) = none) → manyF simpleS (acc, al, rs) (l.flatMap wT ++ z) = manyF simpleS (acc ++ l, al, rs) z
  | [], acc, _, _ => by simp
  | x :: l, acc, h, h0 => by
    have hx := h x (List.mem_cons_self ..)
    have ih := sim_w (z := z) al rs l (acc ++ [x]) (fun y hy => h y (List.mem_cons_of_mem _ hy)) fun e => by simp at e
    have hn : (if acc = [] then asgF (prL x) else none) = none := by
      split
      · rename_i e
        exact h0 e x l rfl
      · rfl
    rw [manyF_step simpleS_sinks]
    simp only [List.flatMap_cons, wT, List.cons_append, List.nil_append, simpleS, redir_word, Bool.false_eq_true, if_false, if_true]
    rw [hn]
    dsimp only
    rw [hx.back]
    simp only [Rs.and]
    rw [ih]
    simp
theorem sim_end {z : Ts} (hz : Fol z) {b : SA} (hb : b.1.length + b.2.1.length + b.2.2.length ≠ 0) : manyF simpleS b z = .ok (snd b, z) := by
  rw [manyF_step simpleS_sinks]
  rcases hz with rfl | ⟨t, r, rfl, ht⟩
  · simp only [simpleS, show redirB [] = false from rfl, Bool.false_eq_true, if_false]
    rw [if_neg hb]
    rfl
  · have := Fol.redir (.inr ⟨t, r, rfl, ht⟩ : Fol ((1, t) :: r))
    simp only [simpleS, this, Bool.false_eq_true, if_false]
    rw [if_neg (by decide), if_neg hb]
    rfl
def simT (b : SA) : Ts := b.2.2.flatMap rT ++ (b.2.1.flatMap aT ++ b.1.flatMap wT)
theorem sim_fwd {s0 r : Ts} {b : SA} (h : SI s0 b r) {z : Ts} (hz : Fol z) (hb : b.1.length + b.2.1.length + b.2.2.length ≠ 0) : simpleF (simT b ++ z) = .ok (snd b, z) := by
  unfold simpleF simT
  rw [List.append_assoc, List.append_assoc, sim_r _ _ h.rs, sim_a _ _ _ h.al, sim_w _ _ _ _ h.ws fun _ x r e => h.hd x r e]
  simp only [List.nil_append]
  exact sim_end hz hb
theorem sim_text (b : SA) (hb : b.1.length + b.2.1.length + b.2.2.length ≠ 0) : 32 :: prN (snd b) = (b.2.2.flatMap fun x => 32 :: prR x) ++ ((b.2.1.flatMap fun x => 32 :: prA x) ++ b.1.flatMap fun x => 32 :: prL x) := by
  rw [prN_eq]
  show 32 :: joinT [32] (b.2.2.map prR ++ b.2.1.map prA ++ b.1.map prL) = _
  rw [join_flat _ fun e => hb (by have := congrArg List.length e; simp only [List.length_append, List.length_map, List.length_nil] at this; omega)]
  simp only [List.flatMap_append, List.flatMap_map, List.append_assoc]
theorem len_flat {α : Type} (g : α → Txt) (l : List α) : (l.flatMap fun x => 32 :: g x).length = (l.map fun x => (g x).length + 1).sum := by
  induction l with
  | nil => rfl
  | cons x l ih => simp only [List.flatMap_cons, List.length_append, List.length_cons, List.map_cons, List.sum_cons, ih]
theorem not_rsv {t : Txt} (h : t ∉ rsv) : t ∉ closL ∧ t ≠ tBang ∧ t ≠ tBrace ∧ t ≠ tIf ∧ t ≠ tWhile ∧ t ≠ tUntil ∧ t ≠ tFor ∧ t ≠ tCase := by
  have key : ∀ u ∈ closL, u ∈ rsv := by decide
  refine ⟨fun e => h (key t e), ?_, ?_, ?_, ?_, ?_, ?_, ?_⟩
  all_goals (rintro rfl; exact h (by decide))
theorem comp_none {cmd br : Pr Nd} {k : Nat} {t : Txt} {r : Ts} (h : k = 0 ∧ t ∉ rsv ∨ k = 1 ∧ t ≠ tOpen) : compF cmd br ((k, t) :: r) = none ∧ resB ((k, t) :: r) = false := by
  rcases h with ⟨rfl, h⟩ | ⟨rfl, h⟩
  · obtain ⟨h1, h2, h3, h4, h5, h6, h7, h8⟩ := not_rsv h
    constructor
    · unfold compF
      rw [isT_hd (by simp), isT_hd (by simp [h3]), isT_hd (by simp [h4]), isT_hd (by simp [h5]), isT_hd (by simp [h6]), isT_hd (by simp [h7]), isT_hd (by simp [h8])]
      rfl
    · have : closL.contains t = false := by simpa using h1
      simp only [resB, this, decide_eq_false h2]
      rfl
  · constructor
    · unfold compF
      rw [isT_hd (by simp [h]), isT_hd (by simp), isT_hd (by simp), isT_hd (by simp), isT_hd (by simp), isT_hd (by simp), isT_hd (by simp)]
      rfl
    · rfl
theorem sim_head {s0 r : Ts} {b : SA} (h : SI s0 b r) (hb : b.1.length + b.2.1.length + b.2.2.length ≠ 0) {z : Ts} (hz : Fol z) : ∃ k t y, simT b ++ z = (k, t) :: y ∧ (k = 0 ∧ t ∉ rsv ∨ k = 1 ∧ t ∈ [tLess, tMore, tMore2]) ∧ isT 1 tOpen y = false := by
  obtain ⟨ws, al, rs⟩ := b
  have word0 : ∀ {l : List (List Pt)}, isT 1 tOpen (l.flatMap wT ++ z) = false := by
    intro l
    cases l with
    | nil => exact hz.no (.inr (by decide))
    | cons x l => exact isT_hd (by simp)
  have asg0 : ∀ {m : List (Txt × List Pt)} {l : List (List Pt)}, isT 1 tOpen (m.flatMap aT ++ (l.flatMap wT ++ z)) = false := by
    intro m l
    cases m with
    | nil => exact word0
    | cons x m => exact isT_hd (by simp)
  cases rs with
  | cons x rs =>
    have hx := (h.rs x (List.mem_cons_self ..)).1
    refine ⟨1, x.1, (0, prL x.2) :: (rs.flatMap rT ++ (al.flatMap aT ++ (ws.flatMap wT ++ z))), ?_, .inr ⟨rfl, ?_⟩, isT_hd (by simp)⟩
    · simp [simT, rT]
    · rcases hx with e | e | e <;> rw [e] <;> decide
  | nil =>
    cases al with
    | cons x al =>
      refine ⟨0, prA x, al.flatMap aT ++ (ws.flatMap wT ++ z), by simp [simT, aT], .inl ⟨rfl, fun e => ?_⟩, asg0⟩
      have h61 : (61 : UInt8) ∈ prA x := by simp [prA]
      have : ∀ u ∈ rsv, (61 : UInt8) ∉ u := by decide
      exact this _ e h61
    | nil =>
      cases ws with
      | nil => exact absurd rfl hb
      | cons x ws => exact ⟨0, prL x, ws.flatMap wT ++ z, by simp [simT, wT], .inl ⟨rfl, h.rv rfl rfl x ws rfl⟩, word0⟩
theorem simple_cm {cmd br : Pr Nd} {s0 r : Ts} {b : SA} (h : SI s0 b r) (hb : b.1.length + b.2.1.length + b.2.2.length ≠ 0) : CmT (commandF cmd br) (snd b) (simT b) ∧ (prN (snd b)).length + 4 + W r ≤ W s0 := by
  refine ⟨⟨?_, fun z hz => ?_, ?_⟩, ?_⟩
  · refine Lx.unsp ?_
    rw [sim_text b hb]
    obtain ⟨h1, h1'⟩ := redirs_lx h.rs
    obtain ⟨h2, h2'⟩ := lx_flat (f := aT) (g := prA) (l := b.2.1) fun x hx => (h.al x hx).lw.lx
    obtain ⟨h3, h3'⟩ := lx_flat (f := wT) (g := prL) (l := b.1) fun x hx => (h.ws x hx).lw.lx
    exact h1.app (h2.app h3 h3') (h2'.app h3')
  · obtain ⟨k, t, y, e, hk, hy⟩ := sim_head h hb hz
    have hc := comp_none (cmd := cmd) (br := br) (r := y) (k := k) (t := t) (hk.imp id fun h => ⟨h.1, by rintro rfl; exact absurd h.2 (by decide)⟩)
    have hf := sim_fwd h hz hb
    unfold commandF
    rw [e] at hf ⊢
    rw [hc.1, hc.2]
    have hfb : funcB ((k, t) :: y) = false := by
      simp only [funcB, hy, Bool.and_false, Bool.false_and]
    simp only [Bool.false_eq_true, if_false, hfb]
    exact hf
  · obtain ⟨k, t, y, e, hk, _⟩ := sim_head h hb (z := []) (.inl rfl)
    rw [List.append_nil] at e
    refine ⟨k, t, y, e, ?_⟩
    rcases hk with ⟨hk, ht⟩ | ⟨hk, ht⟩
    · exact .inl ⟨hk, (not_rsv ht).1, (not_rsv ht).2.1⟩
    · exact .inr ⟨hk, List.mem_cons_of_mem _ ht⟩
  · have h1 := congrArg List.length (sim_text b hb)
    have h2 := h.len
    simp only [List.length_cons, List.length_append, len_flat] at h1
    simp only [lenW, lenA, lenR] at h2
    omega
structure TmT (L : List Txt) (f : Pr Nd) (x : Nd) (T : Ts) : Prop where
  lex : Lx T (prN x)
  back : ∀ z, FolIn L z → f (T ++ z) = .ok (x, z)
  head : HdA T
def Tm (L : List Txt) (f : Pr Nd) (x : Nd) : Prop := ∃ T, TmT L f x T
def GoodT (L : List Txt) (f : Pr Nd) : Prop := ∀ s x r, TkOk s → f s = .ok (x, r) → Tm L f x ∧ (prN x).length + 4 + W r ≤ W s ∧ TkOk r
abbrev LP : List Txt := [tAnd, tOr, tSemi, tShut, tSemi2]
abbrev LA : List Txt := [tSemi, tShut, tSemi2]
theorem TkOk.lines {s : Ts} (h : TkOk s) : TkOk (linesF s) := h.suf (linesF_suf s)
theorem TkOk.tl {s : Ts} (h : TkOk s) : TkOk s.tail := h.suf (tail_suf s)
def seps (sep : Txt) (l : List Nd) : Txt := l.flatMap fun k => sep ++ prN k
theorem join_seps (sep : Txt) (x : Nd) (l : List Nd) : joinT sep ((x :: l).map prN) = prN x ++ seps sep l := by
  simp only [List.map_cons, joinT, seps, List.flatMap_map]
theorem pipe_text (neg : Bool) (x : Nd) (l : List Nd) : prN (pipeN neg (x :: l)) = (if neg = true then [33, 32] else []) ++ (prN x ++ seps [32, 124, 32] l) := by
  have h : ∀ n, prN (.mk 1 n [] [] [] [] [] (x :: l)) = (if n = true then [33, 32] else []) ++ (prN x ++ seps [32, 124, 32] l) := by
    intro n
    rw [prN_eq]
    show (if n = true then [33, 32] else []) ++ joinT [32, 124, 32] (prNs (x :: l)) = _
    rw [prNs_map, join_seps]
  cases l with
  | nil =>
    cases neg with
    | true => exact h true
    | false => simp [pipeN, seps]
  | cons y l => exact h neg
theorem pipe_tail {cmd : Pr Nd} (hc : Eats cmd) (neg : Bool) : ∀ (ks done : List Nd), (∀ k ∈ ks, Cm cmd k) → ∃ T, Lx T (seps [32, 124, 32] ks) ∧ WEnd (seps [32, 124, 32] ks) ∧ ∀ z, FolIn LP z → manyF (pipeS cmd neg) done (T ++ z) = .ok (pipeN neg (done ++ ks), z) ∧ Fol (T ++ z)
  | [], done, _ => by
    refine ⟨[], Lx.nil, .inl rfl, fun z hz => ⟨?_, FolP.fol hz⟩⟩
    rw [manyF_step (pipeS_sinks hc neg)]
    simp only [List.nil_append, pipeS, hz.no (k := 1) (t := tPipe) (.inr (by decide)), Bool.false_eq_true, if_false, Rs.and, List.append_nil]
  | k :: ks, done, h => by
    obtain ⟨T1, h1⟩ := h k (List.mem_cons_self ..)
    obtain ⟨T2, g1, g2, g3⟩ := pipe_tail hc neg ks (done ++ [k]) fun y hy => h y (List.mem_cons_of_mem _ hy)
    refine ⟨(1, tPipe) :: (T1 ++ T2), ?_, .sp, fun z hz => ⟨?_, .inr ⟨tPipe, T1 ++ T2 ++ z, rfl, by decide⟩⟩⟩
    · have := (((Lx.op (o := tPipe) (by decide)).cat h1.lex).sp).app g1 g2
      exact this
    · obtain ⟨e1, e2⟩ := g3 z hz
      rw [manyF_step (pipeS_sinks hc neg)]
      have hl : linesF (T1 ++ T2 ++ z) = T1 ++ (T2 ++ z) := by rw [List.append_assoc]; exact (h1.head.app _).line
      simp only [List.cons_append, pipeS, isT_self, if_true, List.tail_cons, hl]
      rw [h1.back _ e2]
      simp only [Rs.and]
      rw [e1]
      simp
theorem pipe_inv {cmd : Pr Nd} (hg : Good cmd) (neg : Bool) : ∀ (n : Nat) (done : List Nd) (s r : Ts) (x : Nd), many (pipeS cmd neg) n done s = .ok (x, r) → TkOk s → ∃ ks, x = pipeN neg (done ++ ks) ∧ (∀ k ∈ ks, Cm cmd k) ∧ (seps [32, 124, 32] ks).length + W r ≤ W s ∧ TkOk r
  | 0, _, _, _, _, h, _ => by cases h
  | n + 1, done, s, r, x, h, hs => by
    simp only [many] at h
    obtain ⟨y, h1, h⟩ := Rs.and_ok h
    unfold pipeS at h1
    split at h1
    · rename_i hb
      obtain ⟨⟨k, s1⟩, h2, h1⟩ := Rs.and_ok h1
      injection h1 with h1
      subst h1
      obtain ⟨g1, g2, g3⟩ := hg _ _ _ hs.tl.lines h2
      obtain ⟨ks, rfl, k1, k2, k3⟩ := pipe_inv hg neg n _ _ _ _ h g3
      refine ⟨k :: ks, by simp, fun y hy => ?_, ?_, k3⟩
      · rcases List.mem_cons.1 hy with rfl | hy
        · exact g1
        · exact k1 y hy
      · have := W_lines s.tail
        have := W_tail s
        dsimp only at k2
        simp only [seps, List.flatMap_cons, List.length_append, List.length_cons, List.length_nil] at k2 ⊢
        omega
    · injection h1 with h1
      subst h1
      injection h with h
      injection h with e1 e2
      subst e1 e2
      exact ⟨[], by simp, by simp, by simp [seps], hs⟩
theorem pipe_good {cmd : Pr Nd} (hc : Eats cmd) (hg : Good cmd) : GoodT LP (pipeF cmd) := by
  intro s x r hs h
  obtain ⟨⟨x1, s1⟩, h1, h2⟩ := Rs.and_ok h
  have hs0 : TkOk (if isT 0 tBang s = true then s.tail else s) := hs.suf (ite_suf _ s)
  obtain ⟨⟨T1, g1⟩, g2, g3⟩ := hg _ _ _ hs0 h1
  obtain ⟨ks, rfl, k1, k2, k3⟩ := pipe_inv hg _ _ _ _ _ _ h2 g3
  obtain ⟨T2, l1, l2, l3⟩ := pipe_tail hc (isT 0 tBang s) ks [x1] k1
  have hW : (if isT 0 tBang s = true then [33, 32] else ([] : Txt)).length + W (if isT 0 tBang s = true then s.tail else s) ≤ W s := by
    split
    · rename_i hb
      have := W_took hb
      simp only [List.length_cons, List.length_nil] at this ⊢
      omega
    · simp
  generalize isT 0 tBang s = neg at *
  dsimp only at k2
  refine ⟨⟨(if neg = true then [(0, tBang)] else []) ++ (T1 ++ T2), ?_, fun z hz => ?_, ?_⟩, ?_, k3⟩
  · rw [List.singleton_append, pipe_text]
    have := g1.lex.app l1 l2
    cases neg with
    | true => exact (Lx.key (u := tBang) (by decide) (by decide) (by decide)).cat this
    | false => exact this
  · obtain ⟨e1, e2⟩ := l3 z hz
    have hbk := g1.back _ e2
    unfold pipeF
    cases neg with
    | true =>
      simp only [if_true, List.cons_append, List.nil_append, isT_self, List.tail_cons, List.append_assoc]
      rw [hbk]
      exact e1
    | false =>
      simp only [Bool.false_eq_true, if_false, List.nil_append, List.append_assoc, (g1.head.app _).bang]
      rw [hbk]
      exact e1
  · cases neg with
    | true => exact ⟨0, tBang, T1 ++ T2, rfl, .inl ⟨rfl, by decide⟩⟩
    | false => exact (g1.head.app T2).a
  · rw [List.singleton_append, pipe_text]
    simp only [List.length_append]
    omega
def chn (l : List (Txt × Nd)) : Txt := l.flatMap fun y => [32] ++ y.1 ++ [32] ++ prN y.2
theorem chain_text (x : Nd) (l : List (Txt × Nd)) : chainT (l.map (·.1)) ((x :: l.map (·.2)).map prN) = prN x ++ chn l := by
  have key : ∀ (l : List (Txt × Nd)) (os : List Txt) (n : Nat), n = os.length → (((l.map (·.2)).map prN).zipIdx n).flatMap (fun y => [32] ++ (os ++ l.map (·.1)).getD y.2 [] ++ [32] ++ y.1) = chn l := by
    intro l
    induction l with
    | nil => intro _ _ _; rfl
    | cons y l ih =>
      intro os n hn
      have := ih (os ++ [y.1]) (n + 1) (by simp [hn])
      simp only [List.map_cons, List.zipIdx_cons, List.flatMap_cons, chn] at this ⊢
      rw [List.append_assoc, List.singleton_append] at this
      rw [this]
      congr 1
      rw [hn]
      simp
  have := key l [] 0 rfl
  simp only [List.nil_append] at this
  simp only [List.map_cons, chainT]
  rw [this]
theorem and_text (x : Nd) (l : List (Txt × Nd)) : prN (andN (l.map (·.1)) (x :: l.map (·.2))) = prN x ++ chn l := by
  cases l with
  | nil => simp [andN, chn]
  | cons y l =>
    rw [← chain_text, ← prNs_map]
    show prN (.mk 2 false [] [] [] [] ((y :: l).map (·.1)) (x :: (y :: l).map (·.2))) = _
    rw [prN_eq]
    rfl
theorem and_tail {cmd : Pr Nd} (hc : Eats cmd) : ∀ (l : List (Txt × Nd)) (os : List Txt) (ks : List Nd), (∀ y ∈ l, (y.1 = tAnd ∨ y.1 = tOr) ∧ Tm LP (pipeF cmd) y.2) → ∃ T, Lx T (chn l) ∧ WEnd (chn l) ∧ ∀ z, FolIn LA z → manyF (andS cmd) (os, ks) (T ++ z) = .ok (andN (os ++ l.map (·.1)) (ks ++ l.map (·.2)), z) ∧ FolIn LP (T ++ z)
  | [], os, ks, _ => by
    refine ⟨[], Lx.nil, .inl rfl, fun z hz => ⟨?_, FolA.folP hz⟩⟩
    rw [manyF_step (andS_sinks hc)]
    have hb : andB z = false := by
      unfold andB
      rw [hz.no (.inr (by decide)), hz.no (.inr (by decide))]
      rfl
    cases z with
    | nil => simp only [andS, Rs.and, List.map_nil, List.append_nil]
    | cons a z => simp only [List.nil_append, andS, hb, Bool.false_eq_true, if_false, Rs.and, List.map_nil, List.append_nil]
  | y :: l, os, ks, h => by
    obtain ⟨ho, T1, h1⟩ := h y (List.mem_cons_self ..)
    obtain ⟨T2, g1, g2, g3⟩ := and_tail hc l (os ++ [y.1]) (ks ++ [y.2]) fun y hy => h y (List.mem_cons_of_mem _ hy)
    refine ⟨(1, y.1) :: (T1 ++ T2), ?_, .sp, fun z hz => ⟨?_, .inr ⟨y.1, T1 ++ T2 ++ z, rfl, by rcases ho with e | e <;> rw [e] <;> decide⟩⟩⟩
    · have := (((Lx.op (o := y.1) (by rcases ho with e | e <;> rw [e] <;> decide)).cat h1.lex).sp).app g1 g2
      have e : chn (y :: l) = 32 :: (y.1 ++ 32 :: prN y.2) ++ chn l := by simp [chn]
      rw [e]
      exact this
    · obtain ⟨e1, e2⟩ := g3 z hz
      rw [manyF_step (andS_sinks hc)]
      have hl : linesF (T1 ++ T2 ++ z) = T1 ++ (T2 ++ z) := by rw [List.append_assoc]; exact (h1.head.app _).line
      have hb : andB ((1, y.1) :: (T1 ++ T2 ++ z)) = true := by
        unfold andB
        rcases ho with e | e <;> rw [e, isT_self] <;> simp
      simp only [List.cons_append, andS, hb, if_true, hl]
      rw [h1.back _ e2]
      simp only [Rs.and]
      rw [e1]
      simp
theorem and_inv {cmd : Pr Nd} (hg : GoodT LP (pipeF cmd)) : ∀ (n : Nat) (a : List Txt × List Nd) (s r : Ts) (x : Nd), many (andS cmd) n a s = .ok (x, r) → TkOk s → ∃ l : List (Txt × Nd), x = andN (a.1 ++ l.map (·.1)) (a.2 ++ l.map (·.2)) ∧ (∀ y ∈ l, (y.1 = tAnd ∨ y.1 = tOr) ∧ Tm LP (pipeF cmd) y.2) ∧ (chn l).length + W r ≤ W s ∧ TkOk r
  | 0, _, _, _, _, h, _ => by cases h
  | n + 1, a, [], r, x, h, hs => by
    simp only [many, andS, Rs.and] at h
    injection h with h
    injection h with e1 e2
    subst e1 e2
    exact ⟨[], by simp, by simp, by simp [chn], hs⟩
  | n + 1, a, (k, t) :: s, r, x, h, hs => by
    simp only [many] at h
    obtain ⟨y, h1, h⟩ := Rs.and_ok h
    unfold andS at h1
    dsimp only at h1
    split at h1
    · rename_i hb
      obtain ⟨⟨kd, s1⟩, h2, h1⟩ := Rs.and_ok h1
      injection h1 with h1
      subst h1
      have ht : t = tAnd ∨ t = tOr := by
        unfold andB at hb
        rw [Bool.or_eq_true] at hb
        rcases hb with hb | hb
        · have := isT_cons hb
          injection this with e _
          injection e with _ e
          exact .inl e
        · have := isT_cons hb
          injection this with e _
          injection e with _ e
          exact .inr e
      obtain ⟨g1, g2, g3⟩ := hg _ _ _ hs.tail.lines h2
      obtain ⟨l, rfl, k1, k2, k3⟩ := and_inv hg n _ _ _ _ h g3
      refine ⟨(t, kd) :: l, by simp, fun y hy => ?_, ?_, k3⟩
      · rcases List.mem_cons.1 hy with rfl | hy
        · exact ⟨ht, g1⟩
        · exact k1 y hy
      · have := W_lines s
        dsimp only at k2
        simp only [chn, W, List.flatMap_cons, List.length_append, List.length_cons, List.length_nil] at k2 ⊢
        omega
    · injection h1 with h1
      subst h1
      injection h with h
      injection h with e1 e2
      subst e1 e2
      exact ⟨[], by simp, by simp, by simp [chn], hs⟩
theorem and_good {cmd : Pr Nd} (hc : Eats cmd) (hg : Good cmd) : GoodT LA (andF cmd) := by
  intro s x r hs h
  obtain ⟨⟨x1, s1⟩, h1, h2⟩ := Rs.and_ok h
  have hp := pipe_good hc hg
  obtain ⟨⟨T1, g1⟩, g2, g3⟩ := hp _ _ _ hs h1
  obtain ⟨l, rfl, k1, k2, k3⟩ := and_inv hp _ _ _ _ _ h2 g3
  obtain ⟨T2, l1, l2, l3⟩ := and_tail hc l [] [x1] k1
  dsimp only at k2
  refine ⟨⟨T1 ++ T2, ?_, fun z hz => ?_, g1.head.app _⟩, ?_, k3⟩
  · rw [List.nil_append, List.singleton_append, and_text]
    exact g1.lex.app l1 l2
  · obtain ⟨e1, e2⟩ := l3 z hz
    unfold andF
    rw [List.append_assoc, g1.back _ e2]
    exact e1
  · rw [List.nil_append, List.singleton_append, and_text]
    simp only [List.length_append]
    omega
def LEnd (z o : Ts) : Prop := (o = z ∧ FolIn [tShut, tSemi2] z) ∨ (z = (1, tSemi) :: o ∧ ∃ t r, o = (0, t) :: r ∧ t ∈ closL)
theorem LEnd.fol {z o : Ts} (h : LEnd z o) : FolIn LA z := by
  rcases h with ⟨_, h⟩ | ⟨rfl, _⟩
  · exact h.mono (by decide)
  · exact .inr ⟨tSemi, o, rfl, by decide⟩
theorem ends_shut {z : Ts} (h : FolIn [tShut, tSemi2] z) : endsF z = true ∧ linesF z = z := by
  rcases h with rfl | ⟨t, r, rfl, ht⟩
  · exact ⟨rfl, rfl⟩
  · refine ⟨?_, line_op⟩
    simp only [List.mem_cons, List.not_mem_nil, or_false] at ht
    rcases ht with rfl | rfl <;> rfl
theorem ends_clos {t : Txt} {r : Ts} (h : t ∈ closL) : endsF ((0, t) :: r) = true := by
  have : closL.contains t = true := by simpa using h
  simp only [endsF, this]
  rfl
theorem list_stop {cmd : Pr Nd} (hc : Eats cmd) (done : List Nd) {z : Ts} (h : endsF z = true) : manyF (listS cmd) done z = .ok (listN done, z) := by
  rw [manyF_step (listS_sinks hc)]
  simp only [listS, h, if_true, Rs.and]
theorem list_fwd {cmd : Pr Nd} (hc : Eats cmd) : ∀ (x : Nd) (ks done : List Nd), (∀ k ∈ x :: ks, Tm LA (andF cmd) k) → ∃ T, Lx T (prN x ++ seps [59, 32] ks) ∧ HdA T ∧ ∀ z o, LEnd z o → manyF (listS cmd) done (T ++ z) = .ok (listN (done ++ x :: ks), o)
  | x, [], done, h => by
    obtain ⟨T, h1⟩ := h x (List.mem_cons_self ..)
    refine ⟨T, by rw [show seps [59, 32] [] = [] from rfl, List.append_nil]; exact h1.lex, h1.head, fun z o hz => ?_⟩
    rw [manyF_step (listS_sinks hc)]
    simp only [listS, (h1.head.app z).ends, Bool.false_eq_true, if_false]
    rw [h1.back z hz.fol]
    simp only [Rs.and]
    rcases hz with ⟨rfl, hz⟩ | ⟨rfl, t, r, rfl, ht⟩
    · simp only [hz.no (k := 1) (t := tSemi) (.inr (by decide)), hz.no (k := 2) (t := [10]) (.inl (by decide)), Bool.false_eq_true, if_false]
    · simp only [isT_self, if_true, List.tail_cons, line_word]
      exact list_stop hc _ (ends_clos ht)
  | x, y :: ks, done, h => by
    obtain ⟨T, h1⟩ := h x (List.mem_cons_self ..)
    obtain ⟨U, g1, g2, g3⟩ := list_fwd hc y ks (done ++ [x]) fun k hk => h k (List.mem_cons_of_mem _ hk)
    refine ⟨T ++ (1, tSemi) :: U, ?_, h1.head.app _, fun z o hz => ?_⟩
    · have := h1.lex.cats g1
      have e : prN x ++ seps [59, 32] (y :: ks) = prN x ++ 59 :: 32 :: (prN y ++ seps [59, 32] ks) := by simp [seps]
      rw [e]
      exact this
    · rw [manyF_step (listS_sinks hc)]
      have hT : T ++ (1, tSemi) :: U ++ z = T ++ (1, tSemi) :: (U ++ z) := by simp
      rw [hT]
      simp only [listS, (h1.head.app ((1, tSemi) :: (U ++ z))).ends, Bool.false_eq_true, if_false]
      rw [h1.back _ (.inr ⟨tSemi, U ++ z, rfl, by decide⟩)]
      simp only [Rs.and, isT_self, if_true, List.tail_cons, (g2.app z).line]
      rw [g3 z o hz]
      simp
theorem list_inv {cmd : Pr Nd} (hg : GoodT LA (andF cmd)) : ∀ (n : Nat) (done : List Nd) (s r : Ts) (x : Nd), many (listS cmd) n done s = .ok (x, r) → TkOk s → ∃ ks, x = listN (done ++ ks) ∧ (∀ k ∈ ks, Tm LA (andF cmd) k) ∧ (seps [59, 32] ks).length + W r ≤ W s ∧ TkOk r
  | 0, _, _, _, _, h, _ => by cases h
  | n + 1, done, s, r, x, h, hs => by
    simp only [many] at h
    obtain ⟨y, h1, h⟩ := Rs.and_ok h
    unfold listS at h1
    split at h1
    · injection h1 with h1
      subst h1
      injection h with h
      injection h with e1 e2
      subst e1 e2
      exact ⟨[], by simp, by simp, by simp [seps], hs⟩
    · obtain ⟨⟨k, s1⟩, h2, h1⟩ := Rs.and_ok h1
      obtain ⟨g1, g2, g3⟩ := hg _ _ _ hs h2
      dsimp only at h1
      have go : ∀ s2 : Ts, s2 <:+ s1 → W s2 ≤ W s1 → many (listS cmd) n (done ++ [k]) s2 = .ok (x, r) → ∃ ks, x = listN (done ++ ks) ∧ (∀ k ∈ ks, Tm LA (andF cmd) k) ∧ (seps [59, 32] ks).length + W r ≤ W s ∧ TkOk r := by
        intro s2 hs2 hW h
        obtain ⟨ks, rfl, k1, k2, k3⟩ := list_inv hg n _ _ _ _ h (g3.suf hs2)
        refine ⟨k :: ks, by simp, fun y hy => ?_, ?_, k3⟩
        · rcases List.mem_cons.1 hy with rfl | hy
          · exact g1
          · exact k1 y hy
        · simp only [seps, List.flatMap_cons, List.length_append, List.length_cons, List.length_nil] at k2 ⊢
          omega
      split at h1
      · injection h1 with h1
        subst h1
        refine go _ ((linesF_suf _).trans (tail_suf s1)) ?_ h
        have := W_lines s1.tail
        have := W_tail s1
        omega
      · split at h1
        · injection h1 with h1
          subst h1
          exact go _ (linesF_suf s1) (W_lines s1) h
        · injection h1 with h1
          subst h1
          injection h with h
          injection h with e1 e2
          subst e1 e2
          refine ⟨[k], rfl, fun y hy => by rw [List.mem_singleton.1 hy]; exact g1, ?_, g3⟩
          simp only [seps, List.flatMap_cons, List.flatMap_nil, List.length_append, List.length_cons, List.length_nil]
          omega
theorem list_text (x : Nd) (l : List Nd) : prN (listN (x :: l)) = prN x ++ seps [59, 32] l := by
  rw [← join_seps, ← prNs_map]
  unfold listN
  rw [prN_eq]
  rfl
theorem list_len (l : List Nd) : (prN (listN l)).length ≤ (seps [59, 32] l).length := by
  cases l with
  | nil => exact Nat.le_refl _
  | cons x l =>
    rw [list_text]
    simp only [seps, List.flatMap_cons, List.length_append, List.length_cons, List.length_nil]
    omega
structure LmT (f : Pr Nd) (x : Nd) (T : Ts) : Prop where
  lex : Lx T (prN x)
  back : ∀ z o, LEnd z o → f (T ++ z) = .ok (x, o)
  head : HdA T
theorem list_some {cmd : Pr Nd} (hc : Eats cmd) {x : Nd} {ks : List Nd} (h : ∀ k ∈ x :: ks, Tm LA (andF cmd) k) : ∃ T, LmT (listF cmd) (listN (x :: ks)) T := by
  obtain ⟨T, g1, g2, g3⟩ := list_fwd hc x ks [] h
  refine ⟨T, by rw [list_text]; exact g1, fun z o hz => ?_, g2⟩
  unfold listF
  rw [(g2.app z).line]
  exact g3 z o hz
theorem list_good {cmd : Pr Nd} (hc : Eats cmd) (hg : Good cmd) {s r : Ts} {x : Nd} (hs : TkOk s) (h : listF cmd s = .ok (x, r)) : (∃ T, Lx T (prN x) ∧ ∀ z, FolIn [tShut, tSemi2] z → listF cmd (T ++ z) = .ok (x, z)) ∧ (prN x).length + W r ≤ W s ∧ TkOk r ∧ (x.ks ≠ [] → ∃ T, LmT (listF cmd) x T) := by
  obtain ⟨ks, rfl, k1, k2, k3⟩ := list_inv (and_good hc hg) _ _ _ _ _ h hs.lines
  have hl := list_len ([] ++ ks)
  have hW := W_lines s
  rw [List.nil_append] at hl ⊢
  refine ⟨?_, by omega, k3, ?_⟩
  · cases ks with
    | nil =>
      refine ⟨[], Lx.nil, fun z hz => ?_⟩
      obtain ⟨e1, e2⟩ := ends_shut hz
      unfold listF
      rw [List.nil_append, e2]
      exact list_stop hc _ e1
    | cons y ks =>
      obtain ⟨T, hT⟩ := list_some hc k1
      exact ⟨T, hT.lex, fun z hz => hT.back z z (.inl ⟨rfl, hz⟩)⟩
  · intro hne
    cases ks with
    | nil => exact absurd rfl hne
    | cons y ks => exact list_some hc k1
theorem some_good {cmd : Pr Nd} (hc : Eats cmd) (hg : Good cmd) {s r : Ts} {x : Nd} (hs : TkOk s) (h : someF cmd s = .ok (x, r)) : (∃ T, LmT (someF cmd) x T) ∧ (prN x).length + W r ≤ W s ∧ TkOk r := by
  obtain ⟨⟨y, r1⟩, h1, h2⟩ := Rs.and_ok h
  dsimp only at h2
  split at h2
  · cases h2
  · rename_i hne
    injection h2 with h2
    injection h2 with e1 e2
    subst e1 e2
    obtain ⟨_, g2, g3, g4⟩ := list_good hc hg hs h1
    obtain ⟨T, hT⟩ := g4 hne
    refine ⟨⟨T, hT.lex, fun z o hz => ?_, hT.head⟩, g2, g3⟩
    unfold someF
    rw [hT.back z o hz]
    simp only [Rs.and]
    rw [if_neg hne]
theorem took_fwd {k : Nat} {t : Txt} {x : Nd} {z : Ts} : tookF k t (x, (k, t) :: z) = .ok (x, z) := by
  simp only [tookF, isT_self, if_true, List.tail_cons]
theorem took_got {k : Nat} {t : Txt} {x y : Nd} {s r : Ts} (h : tookF k t (x, s) = .ok (y, r)) (hs : TkOk s) : y = x ∧ W r + 20 + 15 * t.length = W s ∧ TkOk r := by
  unfold tookF at h
  split at h
  · rename_i hp
    injection h with h
    injection h with e1 e2
    subst e1 e2
    exact ⟨rfl, W_took hp, hs.tl⟩
  · cases h
structure CoT (cmd br : Pr Nd) (x : Nd) (T : Ts) : Prop where
  rs : x.rs = []
  knd : 4 ≤ x.k ∧ x.k ≤ 9
  lex : Lx T (prN x)
  back : ∀ z, compF cmd br (T ++ z) = some (.ok (x, z))
  head : HdOk T
def CoGood (cmd br : Pr Nd) (x : Nd) (s r : Ts) : Prop := (∃ T, CoT cmd br x T) ∧ (prN x).length + 4 + W r ≤ W s ∧ TkOk r
theorem prN_c {k : Int} {nm : Txt} {ws : List (List Pt)} {os : List Txt} {ks : List Nd} (hk : 4 ≤ k ∧ k ≤ 9) (neg : Bool) (al rs : List (Txt × List Pt)) : prN (.mk k neg nm ws al rs os ks) = compT k nm (ws.map prL) os (ks.map prN) ++ rs.flatMap fun x => 32 :: prR x := by
  rw [prN_eq]
  show formT k neg nm (ws.map prL) (al.map prA) (rs.map prR) os (prNs ks) = _
  rw [prNs_map]
  unfold formT
  rw [if_neg (by omega), if_neg (by omega), if_neg (by omega), if_neg (by omega), if_neg (by omega), if_neg (by omega), if_pos hk]
  simp only [joinT, List.flatMap_map, List.cons_append, List.nil_append]
theorem prN_c0 {k : Int} {nm : Txt} {ws : List (List Pt)} {os : List Txt} {ks : List Nd} (hk : 4 ≤ k ∧ k ≤ 9) : prN (.mk k false nm ws [] [] os ks) = compT k nm (ws.map prL) os (ks.map prN) := by
  rw [prN_c hk]
  simp
theorem comp_shut (cmd br : Pr Nd) (r : Ts) : compF cmd br ((1, tOpen) :: r) = some (insideF cmd 5 1 tShut r) := rfl
theorem comp_brace (cmd br : Pr Nd) (r : Ts) : compF cmd br ((0, tBrace) :: r) = some (insideF cmd 4 0 tEcarb r) := rfl
theorem comp_if (cmd br : Pr Nd) (r : Ts) : compF cmd br ((0, tIf) :: r) = some ((br r).and (tookF 0 tFi)) := rfl
theorem comp_while (cmd br : Pr Nd) (r : Ts) : compF cmd br ((0, tWhile) :: r) = some (loopSF cmd tWhile r) := rfl
theorem comp_until (cmd br : Pr Nd) (r : Ts) : compF cmd br ((0, tUntil) :: r) = some (loopSF cmd tUntil r) := rfl
theorem comp_for (cmd br : Pr Nd) (r : Ts) : compF cmd br ((0, tFor) :: r) = some (eachF cmd r) := rfl
theorem comp_case (cmd br : Pr Nd) (r : Ts) : compF cmd br ((0, tCase) :: r) = some (casesF cmd r) := rfl
theorem end_shut {t : Txt} {z : Ts} (ht : t = tShut ∨ t = tSemi2) : LEnd ((1, t) :: z) ((1, t) :: z) := .inl ⟨rfl, .inr ⟨t, z, rfl, by rcases ht with rfl | rfl <;> decide⟩⟩
theorem end_semi {t : Txt} {z : Ts} (ht : t ∈ closL) : LEnd ((1, tSemi) :: (0, t) :: z) ((0, t) :: z) := .inr ⟨rfl, t, z, rfl, ht⟩
section
variable {cmd br : Pr Nd} (hc : Eats cmd) (hg : Good cmd)
include hc hg
theorem shut_good {s r : Ts} {x : Nd} (hs : TkOk s) (h : insideF cmd 5 1 tShut s = .ok (x, r)) : CoGood cmd br x ((1, tOpen) :: s) r := by
  obtain ⟨⟨l, r1⟩, h1, h2⟩ := Rs.and_ok h
  obtain ⟨⟨T, hT⟩, g2, g3⟩ := some_good hc hg hs h1
  obtain ⟨rfl, k2, k3⟩ := took_got h2 g3
  have e : prN (.mk 5 false [] [] [] [] [] [l]) = [40] ++ 32 :: (prN l ++ 32 :: [41]) := by rw [prN_c0 (by decide)]; simp [compT, kidT]
  refine ⟨⟨[(1, tOpen)] ++ (T ++ [(1, tShut)]), rfl, (by decide : (4 : Int) ≤ 5 ∧ (5 : Int) ≤ 9), ?_, fun z => ?_, 1, tOpen, _, rfl, .inr ⟨rfl, by decide⟩⟩, ?_, k3⟩
  · rw [e]
    exact (Lx.op (o := tOpen) (by decide)).cat (hT.lex.cat (Lx.op (o := tShut) (by decide)))
  · rw [List.cons_append, List.nil_append, List.cons_append, comp_shut, List.append_assoc]
    unfold insideF
    rw [List.cons_append, List.nil_append, hT.back _ _ (end_shut (.inl rfl))]
    simp only [Rs.and, took_fwd]
  · rw [e]
    simp only [W, List.length_append, List.length_cons, List.length_nil] at k2 ⊢
    omega
theorem brace_good {s r : Ts} {x : Nd} (hs : TkOk s) (h : insideF cmd 4 0 tEcarb s = .ok (x, r)) : CoGood cmd br x ((0, tBrace) :: s) r := by
  obtain ⟨⟨l, r1⟩, h1, h2⟩ := Rs.and_ok h
  obtain ⟨⟨T, hT⟩, g2, g3⟩ := some_good hc hg hs h1
  obtain ⟨rfl, k2, k3⟩ := took_got h2 g3
  have e : prN (.mk 4 false [] [] [] [] [] [l]) = [123] ++ 32 :: (prN l ++ 59 :: 32 :: [125]) := by rw [prN_c0 (by decide)]; simp [compT, kidT]
  refine ⟨⟨[(0, tBrace)] ++ (T ++ (1, tSemi) :: [(0, tEcarb)]), rfl, (by decide : (4 : Int) ≤ 4 ∧ (4 : Int) ≤ 9), ?_, fun z => ?_, 0, tBrace, _, rfl, .inl ⟨rfl, by decide, by decide⟩⟩, ?_, k3⟩
  · rw [e]
    exact (Lx.key (u := tBrace) (by decide) (by decide) (by decide)).cat (hT.lex.cats (Lx.key (u := tEcarb) (by decide) (by decide) (by decide)))
  · rw [List.cons_append, List.nil_append, List.cons_append, comp_brace, List.append_assoc]
    unfold insideF
    simp only [List.cons_append, List.nil_append]
    rw [hT.back _ _ (end_semi (by decide))]
    simp only [Rs.and, took_fwd]
  · rw [e]
    simp only [W, List.length_append, List.length_cons, List.length_nil] at k2 ⊢
    omega
theorem body_good {s r : Ts} {x : Nd} (hs : TkOk s) (h : bodyF cmd s = .ok (x, r)) : (∃ T, Lx T ([100, 111] ++ 32 :: (prN x ++ 59 :: 32 :: [100, 111, 110, 101])) ∧ ∀ z, bodyF cmd (T ++ z) = .ok (x, z) ∧ isT 0 tIn (T ++ z) = false ∧ linesF (T ++ z) = T ++ z) ∧ (prN x).length + 60 + W r ≤ W s ∧ TkOk r := by
  unfold bodyF at h
  split at h
  · rename_i hd
    obtain ⟨⟨l, r1⟩, h1, h2⟩ := Rs.and_ok h
    obtain ⟨⟨T, hT⟩, g2, g3⟩ := some_good hc hg hs.tl h1
    obtain ⟨rfl, k2, k3⟩ := took_got h2 g3
    have hW := W_took hd
    refine ⟨⟨[(0, tDo)] ++ (T ++ (1, tSemi) :: [(0, tDone)]), ?_, fun z => ⟨?_, isT_hd (by simp), line_word⟩⟩, ?_, k3⟩
    · exact (Lx.key (u := tDo) (by decide) (by decide) (by decide)).cat (hT.lex.cats (Lx.key (u := tDone) (by decide) (by decide) (by decide)))
    · unfold bodyF
      simp only [List.cons_append, List.nil_append, isT_self, if_true, List.tail_cons, List.append_assoc]
      rw [hT.back _ _ (end_semi (by decide))]
      simp only [Rs.and, took_fwd]
    · simp only [List.length_cons, List.length_nil] at hW k2
      omega
  · cases h
theorem loop_good2 {nm : Txt} (hn : nm = tWhile ∨ nm = tUntil) {s r : Ts} {x : Nd} (hs : TkOk s) (h : loopSF cmd nm s = .ok (x, r)) : CoGood cmd br x ((0, nm) :: s) r := by
  obtain ⟨⟨l, r1⟩, h1, h⟩ := Rs.and_ok h
  obtain ⟨⟨b, r2⟩, h2, h⟩ := Rs.and_ok h
  injection h with h
  injection h with e1 e2
  subst e1 e2
  obtain ⟨⟨T, hT⟩, g2, g3⟩ := some_good hc hg hs h1
  dsimp only at h2
  obtain ⟨⟨U, u1, u2⟩, u3, u4⟩ := body_good hc hg g3 h2
  have e : prN (.mk 7 false nm [] [] [] [] [l, b]) = nm ++ 32 :: (prN l ++ 59 :: 32 :: ([100, 111] ++ 32 :: (prN b ++ 59 :: 32 :: [100, 111, 110, 101]))) := by rw [prN_c0 (by decide)]; simp [compT, kidT]
  refine ⟨⟨[(0, nm)] ++ (T ++ (1, tSemi) :: U), rfl, (by decide : (4 : Int) ≤ 7 ∧ (7 : Int) ≤ 9), ?_, fun z => ?_, 0, nm, _, rfl, .inl ⟨rfl, ?_⟩⟩, ?_, u4⟩
  · rw [e]
    exact (Lx.key (u := nm) (by rcases hn with rfl | rfl <;> decide) (by rcases hn with rfl | rfl <;> decide) (by rcases hn with rfl | rfl <;> decide)).cat (hT.lex.cats u1)
  · have hcf : ∀ r, compF cmd br ((0, nm) :: r) = some (loopSF cmd nm r) := by rcases hn with rfl | rfl <;> exact fun r => rfl
    rw [List.cons_append, List.nil_append, List.cons_append, hcf, List.append_assoc, List.cons_append]
    unfold loopSF
    obtain ⟨v1, _, v3⟩ := u2 z
    have hU : ∃ r, U ++ z = (0, tDo) :: r := by
      unfold bodyF at v1
      split at v1
      · rename_i hd
        exact ⟨_, isT_cons hd⟩
      · cases v1
    obtain ⟨r', hr'⟩ := hU
    have hend : LEnd ((1, tSemi) :: (U ++ z)) (U ++ z) := by rw [hr']; exact end_semi (by decide)
    rw [hT.back _ _ hend]
    simp only [Rs.and]
    rw [v1]
  · rcases hn with rfl | rfl <;> decide
  · rw [e]
    have : nm.length = 5 := by rcases hn with rfl | rfl <;> rfl
    simp only [W, List.length_append, List.length_cons, List.length_nil] at u3 ⊢
    omega
end
structure BrT (br : Pr Nd) (x : Nd) (T : Ts) : Prop where
  frm : ∃ ks, x = .mk 6 false [] [] [] [] [] ks
  lex : Lx ([(0, tIf)] ++ (T ++ (1, tSemi) :: [(0, tFi)])) (prN x)
  back : ∀ z, br (T ++ (1, tSemi) :: (0, tFi) :: z) = .ok (x, (0, tFi) :: z)
def GoodB (br : Pr Nd) : Prop := ∀ s x r, TkOk s → br s = .ok (x, r) → (∃ T, BrT br x T) ∧ (prN x).length + W r ≤ W s + 10 ∧ TkOk r
theorem Cm.tm {cmd : Pr Nd} (hc : Eats cmd) {x : Nd} (h : Cm cmd x) : Tm LA (andF cmd) x := by
  obtain ⟨T, hT⟩ := h
  refine ⟨T, hT.lex, fun z hz => ?_, hT.head.a⟩
  have hp : pipeF cmd (T ++ z) = .ok (x, z) := by
    unfold pipeF
    simp only [(hT.head.app z).bang, Bool.false_eq_true, if_false]
    rw [hT.back z (FolP.fol (FolA.folP hz))]
    simp only [Rs.and]
    rw [manyF_step (pipeS_sinks hc false)]
    simp only [pipeS, hz.no (k := 1) (t := tPipe) (.inr (by decide)), Bool.false_eq_true, if_false, Rs.and, pipeN]
  unfold andF
  rw [hp]
  simp only [Rs.and]
  rw [manyF_step (andS_sinks hc)]
  have hb : andB z = false := by
    unfold andB
    rw [hz.no (.inr (by decide)), hz.no (.inr (by decide))]
    rfl
  cases z with
  | nil => simp only [andS, Rs.and, andN]
  | cons a z => simp only [andS, hb, Bool.false_eq_true, if_false, Rs.and, andN]
theorem one_some {cmd : Pr Nd} (hc : Eats cmd) {x : Nd} (h : Cm cmd x) : ∃ T, LmT (someF cmd) (listN [x]) T := by
  obtain ⟨T, hT⟩ := list_some hc (x := x) (ks := []) fun k hk => by rw [List.mem_singleton.1 hk]; exact h.tm hc
  refine ⟨T, hT.lex, fun z o hz => ?_, hT.head⟩
  unfold someF
  rw [hT.back z o hz]
  rfl
theorem if_text (c t : Nd) : prN (.mk 6 false [] [] [] [] [] [c, t]) = [105, 102] ++ 32 :: (prN c ++ 59 :: 32 :: ([116, 104, 101, 110] ++ 32 :: (prN t ++ 59 :: 32 :: [102, 105]))) := by rw [prN_c0 (by decide)]; simp [compT, kidT]
theorem else_text (c t e : Nd) : prN (.mk 6 false [] [] [] [] [] [c, t, e]) = [105, 102] ++ 32 :: (prN c ++ 59 :: 32 :: ([116, 104, 101, 110] ++ 32 :: (prN t ++ 59 :: 32 :: ([101, 108, 115, 101] ++ 32 :: (prN e ++ 59 :: 32 :: [102, 105]))))) := by rw [prN_c0 (by decide)]; simp [compT, kidT]
theorem branch_good {cmd br : Pr Nd} (hc : Eats cmd) (hg : Good cmd) (hb : GoodB br) (hcb : ∀ s x r, TkOk s → br s = .ok (x, r) → Cm cmd x) : GoodB (branchF cmd br) := by
  intro s x r hs h
  obtain ⟨⟨c, r1⟩, h1, hx1⟩ := Rs.and_ok h
  obtain ⟨⟨T, hT⟩, a2, a3⟩ := some_good hc hg hs h1
  obtain ⟨⟨c', r2⟩, h2, hx2⟩ := Rs.and_ok hx1
  obtain ⟨e0, b2, b3⟩ := took_got h2 a3
  obtain ⟨⟨t, r3⟩, h3, hx3⟩ := Rs.and_ok hx2
  clear h hx1 hx2 h1 h2
  subst e0
  have h := hx3
  dsimp only at h3 h
  obtain ⟨⟨U, hU⟩, c2, c3⟩ := some_good hc hg b3 h3
  simp only [List.length_cons, List.length_nil] at b2
  have kIf := Lx.key (u := tIf) (by decide) (by decide) (by decide)
  have kThen := Lx.key (u := tThen) (by decide) (by decide) (by decide)
  have kElse := Lx.key (u := tElse) (by decide) (by decide) (by decide)
  have kFi := Lx.key (u := tFi) (by decide) (by decide) (by decide)
  -- with an else
  have els : ∀ (e : Nd) (V : Ts), LmT (someF cmd) e V → (prN e).length + W r ≤ W r3 + 40 → TkOk r → x = .mk 6 false [] [] [] [] [] [c', t, e] → (∃ T, BrT (branchF cmd br) x T) ∧ (prN x).length + W r ≤ W s + 10 ∧ TkOk r := by
    rintro e V hV hl hr rfl
    refine ⟨⟨T ++ (1, tSemi) :: ([(0, tThen)] ++ (U ++ (1, tSemi) :: ([(0, tElse)] ++ V))), ⟨_, rfl⟩, ?_, fun z => ?_⟩, ?_, hr⟩
    · rw [else_text]
      have := kIf.cat (hT.lex.cats (kThen.cat (hU.lex.cats (kElse.cat (hV.lex.cats kFi)))))
      simp only [List.append_assoc, List.cons_append, List.nil_append] at this ⊢
      exact this
    · unfold branchF
      simp only [List.append_assoc, List.cons_append, List.nil_append]
      rw [hT.back _ _ (end_semi (by decide))]
      simp only [Rs.and, took_fwd]
      rw [hU.back _ _ (end_semi (by decide))]
      simp only [isT_hd (k := 0) (k' := 0) (t := tElif) (t' := tElse) (by decide), isT_self, Bool.false_eq_true, if_false, if_true, List.tail_cons]
      rw [hV.back _ _ (end_semi (by decide))]
    · rw [else_text]
      simp only [List.length_append, List.length_cons, List.length_nil]
      omega
  split at h
  · rename_i hi
    obtain ⟨⟨y, r4⟩, h4, h⟩ := Rs.and_ok h
    injection h with h
    injection h with e1 e2
    subst e1 e2
    obtain ⟨_, d2, d3⟩ := hb _ _ _ c3.tl h4
    obtain ⟨V, hV⟩ := one_some hc (hcb _ _ _ c3.tl h4)
    have hW := W_took hi
    have hl := list_len [y]
    simp only [seps, List.flatMap_cons, List.flatMap_nil, List.length_append, List.length_cons, List.length_nil] at hl hW
    exact els _ V hV (by dsimp only; omega) d3 rfl
  · split at h
    · rename_i hi
      obtain ⟨⟨y, r4⟩, h4, h⟩ := Rs.and_ok h
      injection h with h
      injection h with e1 e2
      subst e1 e2
      obtain ⟨⟨V, hV⟩, d2, d3⟩ := some_good hc hg c3.tl h4
      have hW := W_took hi
      exact els _ V hV (by dsimp only; omega) d3 rfl
    · injection h with h
      injection h with e1 e2
      subst e1 e2
      refine ⟨⟨T ++ (1, tSemi) :: ([(0, tThen)] ++ U), ⟨_, rfl⟩, ?_, fun z => ?_⟩, ?_, c3⟩
      · rw [if_text]
        have := kIf.cat (hT.lex.cats (kThen.cat (hU.lex.cats kFi)))
        simp only [List.append_assoc, List.cons_append, List.nil_append] at this ⊢
        exact this
      · unfold branchF
        simp only [List.append_assoc, List.cons_append, List.nil_append]
        rw [hT.back _ _ (end_semi (by decide))]
        simp only [Rs.and, took_fwd]
        rw [hU.back _ _ (end_semi (by decide))]
        simp only [isT_hd (k := 0) (k' := 0) (t := tElif) (t' := tFi) (by decide), isT_hd (k := 0) (k' := 0) (t := tElse) (t' := tFi) (by decide), Bool.false_eq_true, if_false]
      · rw [if_text]
        simp only [List.length_append, List.length_cons, List.length_nil]
        omega
theorem br_co {cmd br : Pr Nd} {x : Nd} {T : Ts} (h : BrT br x T) : CoT cmd br x ([(0, tIf)] ++ (T ++ (1, tSemi) :: [(0, tFi)])) := by
  obtain ⟨ks, hk⟩ := h.frm
  refine ⟨by rw [hk]; rfl, by rw [hk]; exact (by decide : (4 : Int) ≤ 6 ∧ (6 : Int) ≤ 9), h.lex, fun z => ?_, 0, tIf, _, rfl, .inl ⟨rfl, by decide, by decide⟩⟩
  simp only [List.append_assoc, List.cons_append, List.nil_append, comp_if]
  rw [h.back]
  simp only [Rs.and, took_fwd]
theorem if_good {cmd br : Pr Nd} (hb : GoodB br) {s r : Ts} {x : Nd} (hs : TkOk s) (h : (br s).and (tookF 0 tFi) = .ok (x, r)) : CoGood cmd br x ((0, tIf) :: s) r := by
  obtain ⟨⟨y, r1⟩, h1, h2⟩ := Rs.and_ok h
  obtain ⟨⟨T, hT⟩, g2, g3⟩ := hb _ _ _ hs h1
  obtain ⟨rfl, k2, k3⟩ := took_got h2 g3
  refine ⟨⟨_, br_co hT⟩, ?_, k3⟩
  simp only [W, List.length_cons, List.length_nil] at k2 ⊢
  omega
end Go.Proofs.YthommfjiaalecaaDoor
