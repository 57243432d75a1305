/- The program's parser of scripts: pipes, and-ors, lists. Conditions: few tokens, each of few bytes; commands are read one by one as lvS says. -/
import Derived.Test.YtcoeiiihmpnagaaDoorSyKid
namespace Go.Proofs.YtcoeiiihmpnagaaDoor
open Go.RowKit Vc
variable {w : World}

def NExitA (a : Addr) (gr : Nat) (w : World) (R : Ending → World → Prop) : Prop :=
  ∃ vKind : Int, ∃ vNot : Bool, ∃ vName : List UInt8, ∃ (vWords : Option Addr) (vWordsL vWordsC : Nat), ∃ (vAssigns : Option Addr) (vAssignsL vAssignsC : Nat), ∃ (vRedirs : Option Addr) (vRedirsL vRedirsC : Nat), ∃ (vOps : Option Addr) (vOpsL vOpsC : Nat), ∃ (vKids : Option Addr) (vKidsL vKidsC : Nat), w.cell? a = some (.int .i64 vKind) ∧ w.cell? (a.add 1) = some (.bool vNot) ∧ w.cell? (a.add 2) = some (.string (S vName)) ∧ w.cell? (a.add 3) = some (.slice vWords vWordsL vWordsC) ∧ w.cell? (a.add 4) = some (.slice vAssigns vAssignsL vAssignsC) ∧ w.cell? (a.add 5) = some (.slice vRedirs vRedirsL vRedirsC) ∧ w.cell? (a.add 6) = some (.slice vOps vOpsL vOpsC) ∧ w.cell? (a.add 7) = some (.slice vKids vKidsL vKidsC) ∧ stCells (Addr.mk gr 0 none) (fun (w7 : World) => ∃ vKind1 : Int, ∃ vNot1 : Bool, ∃ vName1 : List UInt8, ∃ (vWords1 : Option Addr) (vWordsL1 vWordsC1 : Nat), ∃ (vAssigns1 : Option Addr) (vAssignsL1 vAssignsC1 : Nat), ∃ (vRedirs1 : Option Addr) (vRedirsL1 vRedirsC1 : Nat), ∃ (vOps1 : Option Addr) (vOpsL1 vOpsC1 : Nat), ∃ (vKids1 : Option Addr) (vKidsL1 vKidsC1 : Nat), w7.cell? (Addr.mk gr 0 none) = some (.int .i64 vKind1) ∧ w7.cell? (Addr.mk gr 1 none) = some (.bool vNot1) ∧ w7.cell? (Addr.mk gr 2 none) = some (.string (S vName1)) ∧ w7.cell? (Addr.mk gr 3 none) = some (.slice vWords1 vWordsL1 vWordsC1) ∧ w7.cell? (Addr.mk gr 4 none) = some (.slice vAssigns1 vAssignsL1 vAssignsC1) ∧ w7.cell? (Addr.mk gr 5 none) = some (.slice vRedirs1 vRedirsL1 vRedirsC1) ∧ w7.cell? (Addr.mk gr 6 none) = some (.slice vOps1 vOpsL1 vOpsC1) ∧ w7.cell? (Addr.mk gr 7 none) = some (.slice vKids1 vKidsL1 vKidsC1) ∧ R (.returned (.agg #[(.int .i64 vKind1), (.bool vNot1), (.string (S vName1)), (.slice vWords1 vWordsL1 vWordsC1), (.slice vAssigns1 vAssignsL1 vAssignsC1), (.slice vRedirs1 vRedirsL1 vRedirsC1), (.slice vOps1 vOpsL1 vOpsC1), (.slice vKids1 vKidsL1 vKidsC1)])) w7) 0 [(.int .i64 vKind), (.bool vNot), (.string (S vName)), (.slice vWords vWordsL vWordsC), (.slice vAssigns vAssignsL vAssignsC), (.slice vRedirs vRedirsL vRedirsC), (.slice vOps vOpsL vOpsC), (.slice vKids vKidsL vKidsC)] w
theorem nExitA_spec {w0 : World} {g B : Nat} {a : Addr} {x : Nd} {cs : List Value} {R : Ending → World → Prop} (hc : CellsAt w a cs) (hn : NdE w (fun k => B ≤ k ∧ k < w.heap.size) x cs) (ho : Only g w0 w) (hres : Row w w0.heap.size 32 ⟨zcell⟩) (hB : w0.heap.size < B)
    (hR : ∀ w' cs, Mod (fun k => k = w0.heap.size) w w' → Only g w0 w' → NdE w' (fun k => w0.heap.size ≤ k ∧ k < w'.heap.size) x cs → R (.returned (.agg ⟨cs⟩)) w') : NExitA a w0.heap.size w R := by
  obtain ⟨pw, cw, pa, ca, pr, cr, po, co, pk, ck, rfl, _⟩ := hn.outs
  refine ⟨_, _, _, _, _, _, _, _, _, _, _, _, _, _, _, _, _, _, hc.zero, hc 1 _ rfl, hc 2 _ rfl, hc 3 _ rfl, hc 4 _ rfl, hc 5 _ rfl, hc 6 _ rfl, hc 7 _ rfl, stK hres (by simp) (by simp [Value.oneCell']) fun w' r' m' z' => ?_⟩
  refine ⟨_, _, _, _, _, _, _, _, _, _, _, _, _, _, _, _, _, _, r'.lget rfl, r'.lget rfl, r'.lget rfl, r'.lget rfl, r'.lget rfl, r'.lget rfl, r'.lget rfl, r'.lget rfl, hR w' _ m' (Mod.trans ho m' (fun _ h => h) (fun i hi e => by omega)) ?_⟩
  exact (hn.mod m' fun k hk e => by omega).mono fun k hk => ⟨by omega, by omega⟩
def CmdS (L : Nat) : Prop := ∀ (w : World) (g : Nat) (s : Ts), Pz w g s → TB s → Calls Tryd.prog fn_syntax_parser_command #[.pointer (some ⟨g, 0, none⟩), .int .i64 (31 - (L : Int))] w (SyP w g ((lvS L).1 s))
theorem pipeN_two {neg : Bool} {ks : List Nd} (h : ¬ (ks.length = 1 ∧ neg = false)) : pipeN neg ks = .mk 1 neg [] [] [] [] [] ks := by
  match ks with
  | [] => rfl
  | [k] =>
    cases neg with
    | true => rfl
    | false => exact absurd ⟨rfl, rfl⟩ h
  | a :: b :: r => rfl
theorem pipe_of {L : Nat} (hc : CmdS L) {g : Nat} {s : Ts} (h : Pz w g s) (hb : TB s) : Calls Tryd.prog fn_syntax_parser_pipe #[.pointer (some ⟨g, 0, none⟩), .int .i64 (31 - (L : Int))] w (SyP w g (pipeF (lvS L).1 s)) := by
  refine syntax_parser_pipe_calls _ _ _ _ ?_
  have hg := h.lt
  have he := (lvS_eats L).1
  have hsf := (lvS_suf L).1
  refine allocK fun w1 r1 s1 z1 => (take_spec (h.still s1) 0 (t := tBang) (by decide)).mono ?_
  rintro _ w2 ⟨rfl, o2, h2⟩
  have hz2 := o2.size
  refine .inl ⟨_, rfl, allocK fun w3 r3 s3 z3 => stK r3 (by simp) (by simp [Value.oneCell']) fun w4 r4 m4 z4 => ?_⟩
  have r4 : Row w4 w2.heap.size 32 ⟨ncell (.mk 1 (isT 0 tBang s) [] [] [] [] [] []) (.slice none 0 0) (.slice none 0 0) (.slice none 0 0) (.slice none 0 0) (.slice none 0 0)⟩ := r4
  have res4 : Row w4 w.heap.size 32 ⟨zcell⟩ := ((r1.mod o2 (by omega)).still s3).mod m4 (by omega)
  have o4 : Only g w w4 := Mod.trans ((s1.only.tr o2).tr s3.only) m4 (fun _ h => h) (fun i hi e => by omega)
  have h4 := (h2.still s3).mod m4 (by intro k hk e; omega)
  have hb4 : TB (if isT 0 tBang s = true then s.tail else s) := hb.suf (ite_suf _ s)
  have nb4 := NB.mk0 (B := w.heap.size + 1) r4 o4 hg (by omega) (by omega) ⟨rfl, rfl, rfl, rfl, rfl⟩
  have hpf : pipeF (lvS L).1 s = ((lvS L).1 (if isT 0 tBang s = true then s.tail else s)).and fun x => manyF (pipeS (lvS L).1 (isT 0 tBang s)) [x.1] x.2 := rfl
  rw [hpf]
  clear hpf
  generalize (if isT 0 tBang s = true then s.tail else s) = s0 at *
  generalize isT 0 tBang s = neg at *
  have hs0 := hb4.1
  refine kidK_spec nb4 (hc _ _ _ (h4.still (drew_still _)) hb4) (show 0 < 1000000 by decide) (fun k w' hr o => ⟨o, ?_⟩) (fun y vk5 w5 X5 hr nb5 h5 m5 => ?_)
  · rw [hr]
    rfl
  rw [hr]
  have res5 := res4.mod m5 (by intro e; omega)
  have hy1 := he _ _ hr
  have hy2 := hsf _ _ hr
  refine ⟨fun w9 => ∃ s9 ks vk X, NB w w9 g w2.heap.size (w.heap.size + 1) X (.mk 1 neg [] [] [] [] [] ks) (.slice none 0 0) (.slice none 0 0) (.slice none 0 0) (.slice none 0 0) vk ∧ Row w9 w.heap.size 32 ⟨zcell⟩ ∧ Pz w9 g s9 ∧ s9 <:+ s0 ∧ ks.length + s9.length ≤ s0.length ∧ manyF (pipeS (lvS L).1 neg) ks s9 = manyF (pipeS (lvS L).1 neg) [y.1] y.2, pzLen g, ⟨y.2, [y.1], vk5, X5, nb5, res5, h5, hy2, by simp only [List.length_cons, List.length_nil]; omega, rfl⟩, ?_⟩
  rintro _ w9 ⟨s9, ks, vk, X, nb9, res9, h9, hsf9, hlen, heq⟩
  simp only [Rs.and]
  rw [← heq, manyF_step (pipeS_sinks he _)]
  clear heq
  refine (take_spec h9 1 (t := tPipe) (by decide)).mono ?_
  rintro _ w10 ⟨rfl, o10, h10⟩
  refine .inl ⟨_, rfl, bsel_of (fun hx => ?_) (fun hx => ?_)⟩
  · rw [hx, if_pos rfl] at h10
    have hps : pipeS (lvS L).1 neg ks s9 = ((lvS L).1 (linesF s9.tail)).and fun x => .ok (.inl (ks ++ [x.1], x.2)) := by unfold pipeS; rw [if_pos hx]
    rw [hps]
    have htl := isT_len hx
    have hll := linesF_le s9.tail
    have hsuf : linesF s9.tail <:+ s0 := (linesF_suf _).trans ((tail_suf _).trans hsf9)
    refine (lines_spec h10).mono ?_
    rintro _ w11 ⟨rfl, o11, h11⟩
    have nb11 := (nb9.on o10).on o11
    have res11 := (res9.mod o10 (by omega)).mod o11 (by omega)
    refine .inl ⟨rfl, kidK_spec nb11 (hc _ _ _ (h11.still (drew_still _)) (hb4.suf hsuf)) (show ks.length < 1000000 by omega) (fun k w' hr o => ⟨o, ?_⟩) (fun z vk12 w12 X12 hr nb12 h12 m12 => ?_)⟩
    · rw [hr]
      rfl
    have hz1 := he _ _ hr
    rw [hr]
    refine ⟨⟨z.2, ks ++ [z.1], vk12, X12, nb12, res11.mod m12 (by intro e; omega), h12, (hsf _ _ hr).trans hsuf, by simp only [List.length_append, List.length_cons, List.length_nil]; omega, ?_⟩, by rw [h12.len, h9.len]; omega⟩
    rfl
  · rw [hx, if_neg (by decide)] at h10
    have hps : pipeS (lvS L).1 neg ks s9 = .ok (.inr (pipeN neg ks, s9)) := by unfold pipeS; rw [if_neg (by rw [hx]; decide)]
    rw [hps]
    have nb10 := nb9.on o10
    have res10 := res9.mod o10 (by omega)
    obtain ⟨p, c, rfl⟩ := nb10.ok.form
    refine ⟨fun w18 => w18 = w10 ∧ ¬ (ks.length = 1 ∧ neg = false), ⟨fun b w16 => w16 = w10 ∧ (b = true ↔ ks.length = 1 ∧ neg = false), ⟨p, ks.length, c, nb10.row.lget rfl, bsel_of (fun e => ⟨neg, nb10.row.lget rfl, rfl, ?_⟩) (fun e => ⟨rfl, fun h => (by cases h), fun h => absurd h.1 (by have := of_decide_eq_false e; omega)⟩)⟩, ?_⟩, ?_⟩
    · have := of_decide_eq_true e
      cases neg with
      | true => exact ⟨fun h => (by cases h), fun h => (by cases h.2)⟩
      | false => exact ⟨fun _ => ⟨by omega, rfl⟩, fun _ => rfl⟩
    · rintro b _ w16 ⟨rfl, hb⟩
      refine bsel_of (fun hbt => ?_) (fun hbf => ⟨rfl, fun h => by rw [hb.2 h] at hbf; cases hbf⟩)
      obtain ⟨e1, e2⟩ := hb.1 hbt
      obtain ⟨k, rfl⟩ : ∃ k, ks = [k] := by
        match ks, e1 with
        | [k], _ => exact ⟨k, rfl⟩
      obtain ⟨q, cs, rfl, _, hnd, hcs⟩ := nb10.ok.at.get (i := 0) rfl
      refine ⟨some q, _, c, nb10.row.lget rfl, by decide, show (0 : Int) < ((1 : Nat) : Int) by decide, nExitA_spec hcs hnd nb10.only res10 (Nat.lt_succ_self _) fun w' cs' m' o' hn' => ⟨o', ?_⟩⟩
      have : pipeN neg [k] = k := by rw [e2]; rfl
      rw [this]
      exact ⟨_, rfl, hn', h10.mod m' fun j hj e => by omega⟩
    · rintro _ w18 ⟨rfl, hno⟩
      refine nExit_spec nb10 res10 (Nat.lt_succ_self _) fun w' cs' m' o' hn' => ⟨o', ?_⟩
      rw [pipeN_two hno]
      exact ⟨_, rfl, hn', h10.mod m' fun j hj e => by omega⟩
theorem nExit_row {w0 : World} {g gn B : Nat} {x : Nd} {cs : List Value} {R : Ending → World → Prop} (hr : Row w gn 32 ⟨cs⟩) (hn : NdE w (fun k => B ≤ k ∧ k < w.heap.size) x cs) (ho : Only g w0 w) (hres : Row w w0.heap.size 32 ⟨zcell⟩) (hB : w0.heap.size < B)
    (hR : ∀ w' cs, Mod (fun k => k = w0.heap.size) w w' → Only g w0 w' → NdE w' (fun k => w0.heap.size ≤ k ∧ k < w'.heap.size) x cs → R (.returned (.agg ⟨cs⟩)) w') : NExit gn w0.heap.size w R := by
  obtain ⟨pw, cw, pa, ca, pr, cr, po, co, pk, ck, rfl, _⟩ := hn.outs
  refine ⟨_, _, _, _, _, _, _, _, _, _, _, _, _, _, _, _, _, _, hr.lget rfl, hr.lget rfl, hr.lget rfl, hr.lget rfl, hr.lget rfl, hr.lget rfl, hr.lget rfl, hr.lget rfl, stK hres (by simp) (by simp [Value.oneCell']) fun w' r' m' z' => ?_⟩
  refine ⟨_, _, _, _, _, _, _, _, _, _, _, _, _, _, _, _, _, _, r'.lget rfl, r'.lget rfl, r'.lget rfl, r'.lget rfl, r'.lget rfl, r'.lget rfl, r'.lget rfl, r'.lget rfl, hR w' _ m' (Mod.trans ho m' (fun _ h => h) (fun i hi e => by omega)) ?_⟩
  exact (hn.mod m' fun k hk e => by omega).mono fun k hk => ⟨by omega, by omega⟩
theorem andB_at (s : Ts) : atB 1 [tAnd, tOr] s = andB s := by
  rw [atB_cons (by decide), atB_one (by decide)]
  rfl
theorem andN_two {os : List Txt} {ks : List Nd} (h : os ≠ []) : andN os ks = .mk 2 false [] [] [] [] os ks := by
  cases os with
  | nil => exact absurd rfl h
  | cons a r => rfl
theorem andOr_of {L : Nat} (hc : CmdS L) {g : Nat} {s : Ts} (h : Pz w g s) (hb : TB s) : Calls Tryd.prog fn_syntax_parser_andOr #[.pointer (some ⟨g, 0, none⟩), .int .i64 (31 - (L : Int))] w (SyP w g (andF (lvS L).1 s)) := by
  refine syntax_parser_andOr_calls _ _ _ _ ?_
  have hg := h.lt
  have he := (lvS_eats L).1
  have hep := pipeF_eats he
  have hsp := pipeF_suf (lvS_suf L).1
  have hs0 := hb.1
  have haf : andF (lvS L).1 s = (pipeF (lvS L).1 s).and fun x => manyF (andS (lvS L).1) ([], [x.1]) x.2 := rfl
  rw [haf]
  clear haf
  refine allocK fun w1 r1 s1 z1 => (pipe_of hc (h.still s1) hb).mono ?_
  rintro e2 w2 ⟨o2, hp⟩
  have hz2 := o2.size
  cases hr : pipeF (lvS L).1 s with
  | bad k =>
    rw [hr] at hp
    exact .inr ⟨_, hp, s1.only.tr o2, rfl⟩
  | ok y =>
  rw [hr] at hp
  obtain ⟨cs, rfl, hnd, h2⟩ := hp
  have hy1 := hep _ _ hr
  have hy2 := hsp _ _ hr
  simp only [Rs.and]
  obtain ⟨pw, cw, pa, ca, pr, cr, po, co, pk, ck, rfl, _⟩ := hnd.outs
  refine .inl ⟨_, _, _, _, _, _, _, _, _, _, _, _, _, _, _, _, _, _, rfl, allocK fun w3 r3 s3 z3 => allocK fun w4 r4 s4 z4 => stK r4 (by simp) (by simp [Value.oneCell']) fun w5 r5 m5 z5 => ?_⟩
  have r5 : Row w5 w3.heap.size 32 ⟨ncell (.mk 2 false [] [] [] [] [] [y.1]) (.slice none 0 0) (.slice none 0 0) (.slice none 0 0) (.slice none 0 0) (.slice (some ⟨w2.heap.size, 0, none⟩) 1 1)⟩ := r5
  have res5 : Row w5 w.heap.size 32 ⟨zcell⟩ := (((r1.mod o2 (by omega)).still s3).still s4).mod m5 (by omega)
  have r3' := (r3.still s4).mod m5 (by omega)
  have o5 : Only g w w5 := Mod.trans (((s1.only.tr o2).tr s3.only).tr s4.only) m5 (fun _ h => h) (fun i hi e => by omega)
  have h5 := ((h2.still s3).still s4).mod m5 (by intro k hk e; omega)
  have hnd5 : NdE w5 (fun k => w.heap.size + 1 ≤ k ∧ k < w5.heap.size ∧ k ≠ w3.heap.size ∧ k ≠ w2.heap.size) y.1 _ := (((hnd.still s3).still s4).mod m5 (fun k hk e => by omega)).mono fun k hk => ⟨by omega, by omega, by omega, by omega⟩
  have nb5 := NB.mkK (B := w.heap.size + 1) r5 r3' hnd5 o5 hg (by omega) (by omega) (by omega) (by omega) ⟨rfl, rfl, rfl, rfl, rfl⟩
  refine ⟨fun w9 => ∃ s9 os ks vo vk X, NB w w9 g w3.heap.size (w.heap.size + 1) X (.mk 2 false [] [] [] [] os ks) (.slice none 0 0) (.slice none 0 0) (.slice none 0 0) vo vk ∧ Row w9 w.heap.size 32 ⟨zcell⟩ ∧ Pz w9 g s9 ∧ s9 <:+ s ∧ ks.length = os.length + 1 ∧ ks.length + s9.length ≤ s.length ∧ manyF (andS (lvS L).1) (os, ks) s9 = manyF (andS (lvS L).1) ([], [y.1]) y.2, pzLen g, ⟨y.2, [], [y.1], _, _, _, nb5, res5, h5, hy2, rfl, by simp only [List.length_cons, List.length_nil]; omega, rfl⟩, ?_⟩
  rintro _ w6 ⟨s9, os, ks, vo, vk, X, nb6, res6, h6, hsf9, hko, hlen, heq⟩
  rw [← heq, manyF_step (andS_sinks he)]
  clear heq
  refine allocK fun w7 r7 s7 z7 => (at_spec (h6.still s7) 1 (StrsAt.row (l := [tAnd, tOr]) r7) (by decide)).mono ?_
  rintro _ w8 ⟨rfl, s8⟩
  rw [andB_at]
  have s68 := s7.trans s8
  have nb8 := nb6.still s68
  have res8 := res6.still s68
  have h8 := h6.still s68
  refine .inl ⟨_, rfl, bsel_of (fun hx => ?_) (fun hx => ?_)⟩
  · obtain ⟨x, r, rfl⟩ : ∃ x r, s9 = x :: r := by
      cases s9 with
      | nil => cases hx
      | cons x r => exact ⟨x, r, rfl⟩
    have has : andS (lvS L).1 (os, ks) (x :: r) = (pipeF (lvS L).1 (linesF r)).and fun z => .ok (.inl ((os ++ [x.2], ks ++ [z.1]), z.2)) := by
      show (if andB (x :: r) = true then _ else _) = _
      rw [if_pos hx]
    rw [has]
    simp only [List.length_cons] at hlen
    have hll := linesF_le r
    have hsuf : linesF r <:+ s := (linesF_suf _).trans ((List.suffix_cons x r).trans hsf9)
    obtain ⟨po, co, rfl⟩ := nb8.oo.form
    have nb8' := nb8.still (drew_still w8)
    refine ⟨fun wq => wq.cell? (Addr.mk w3.heap.size 6 none) = some (.slice po os.length co), nb8'.row.lget rfl, po, os.length, co, fun _ h => h, (next_spec (h8.still (drew_still w8))).mono ?_⟩
    rintro _ w9 ⟨rfl, o9, h9⟩
    have nb9 := nb8'.on o9
    refine .inl ⟨_, _, rfl, nb9.row.lget rfl, NB.addO (y := x.2) nb8' o9 rfl (show os.length < 1000000 by omega) fun p' c' w12 X' nb12 m12 => ?_⟩
    have h12 := h9.mod m12 (fun k hk hb => by omega)
    have res12 := ((res8.still (drew_still w8)).mod o9 (by omega)).mod m12 (by omega)
    refine (lines_spec h12).mono ?_
    rintro _ w13 ⟨rfl, o13, h13⟩
    have nb13 := nb12.on o13
    refine .inl ⟨rfl, kidK_spec nb13 (pipe_of hc (h13.still (drew_still _)) (hb.suf hsuf)) (show ks.length < 1000000 by omega) (fun k w' hr o => ⟨o, ?_⟩) (fun z vk17 w17 X17 hr nb17 h17 m17 => ?_)⟩
    · rw [hr]
      rfl
    have hz1 := hep _ _ hr
    rw [hr]
    refine ⟨⟨z.2, os ++ [x.2], ks ++ [z.1], _, vk17, X17, nb17, (res12.mod o13 (by omega)).mod m17 (by intro e; omega), h17, (hsp _ _ hr).trans hsuf, by simp only [List.length_append, List.length_cons, List.length_nil]; omega, by simp only [List.length_append, List.length_cons, List.length_nil]; omega, rfl⟩, by rw [h17.len, h6.len]; simp only [List.length_cons]; omega⟩
  · have has : andS (lvS L).1 (os, ks) s9 = .ok (.inr (andN os ks, s9)) := by
      cases s9 with
      | nil => rfl
      | cons x r =>
        show (if andB (x :: r) = true then _ else _) = _
        rw [if_neg (by rw [hx]; decide)]
    rw [has]
    simp only [Rs.and]
    obtain ⟨po, co, rfl⟩ := nb8.oo.form
    obtain ⟨pk, ck, rfl⟩ := nb8.ok.form
    refine ⟨po, os.length, co, nb8.row.lget rfl, bsel_of (fun e => ?_) (fun e => ?_)⟩
    · have e : os = [] := List.eq_nil_of_length_eq_zero (by have := of_decide_eq_true e; omega)
      subst e
      obtain ⟨k, rfl⟩ : ∃ k, ks = [k] := by
        match ks, hko with
        | [k], _ => exact ⟨k, rfl⟩
      obtain ⟨q, cs, rfl, _, hnd, hcs⟩ := nb8.ok.at.get (i := 0) rfl
      exact ⟨some q, _, ck, nb8.row.lget rfl, by decide, show (0 : Int) < ((1 : Nat) : Int) by decide, nExitA_spec hcs hnd nb8.only res8 (Nat.lt_succ_self _) fun w' cs' m' o' hn' => ⟨o', _, rfl, hn', h8.mod m' fun j hj e => by omega⟩⟩
    · have e : os ≠ [] := by
        rintro rfl
        exact of_decide_eq_false e rfl
      refine nExit_spec nb8 res8 (Nat.lt_succ_self _) fun w' cs' m' o' hn' => ⟨o', ?_⟩
      rw [andN_two e]
      exact ⟨_, rfl, hn', h8.mod m' fun j hj e => by omega⟩
theorem list_of {L : Nat} (hc : CmdS L) {g : Nat} {s : Ts} (h : Pz w g s) (hb : TB s) : Calls Tryd.prog fn_syntax_parser_list #[.pointer (some ⟨g, 0, none⟩), .int .i64 (31 - (L : Int))] w (SyP w g (listF (lvS L).1 s)) := by
  refine syntax_parser_list_calls _ _ _ _ ?_
  have hg := h.lt
  have he := (lvS_eats L).1
  have hea := andF_eats he
  have hsa := andF_suf (lvS_suf L).1
  have hs0 := hb.1
  refine allocK fun w1 r1 s1 z1 => allocK fun w2 r2 s2 z2 => stK r2 (by simp) (by simp [Value.oneCell']) fun w3 r3 m3 z3 => ?_
  have r3 : Row w3 w1.heap.size 32 ⟨ncell (.mk 3 false [] [] [] [] [] []) (.slice none 0 0) (.slice none 0 0) (.slice none 0 0) (.slice none 0 0) (.slice none 0 0)⟩ := r3
  have res3 : Row w3 w.heap.size 32 ⟨zcell⟩ := (r1.still s2).mod m3 (by omega)
  have s3 : Still w w3 := (s1.trans s2).box (by omega) m3
  have nb3 := NB.mk0 (B := w.heap.size + 1) r3 s3.only hg (by omega) (by omega) ⟨rfl, rfl, rfl, rfl, rfl⟩
  refine (lines_spec (h.still s3)).mono ?_
  rintro _ w4 ⟨rfl, o4, h4⟩
  have hll := linesF_le s
  refine .inl ⟨rfl, fun w9 => ∃ s9 ks vk X, NB w w9 g w1.heap.size (w.heap.size + 1) X (listN ks) (.slice none 0 0) (.slice none 0 0) (.slice none 0 0) (.slice none 0 0) vk ∧ Row w9 w.heap.size 32 ⟨zcell⟩ ∧ Pz w9 g s9 ∧ s9 <:+ s ∧ ks.length + s9.length ≤ s.length ∧ manyF (listS (lvS L).1) ks s9 = listF (lvS L).1 s, pzLen g, ⟨linesF s, [], _, _, nb3.on o4, res3.mod o4 (by omega), h4, linesF_suf s, by simp only [List.length_nil]; omega, rfl⟩, ?_⟩
  rintro _ w5 ⟨s9, ks, vk, X, nb5, res5, h5, hsf9, hlen, heq⟩
  rw [← heq, manyF_step (listS_sinks he)]
  clear heq
  refine (ends_spec h5).mono ?_
  rintro _ w6 ⟨rfl, s6⟩
  have nb6 := nb5.still s6
  have res6 := res5.still s6
  have h6 := h5.still s6
  refine .inl ⟨_, rfl, bsel_of (fun hx => ?_) (fun hx => ?_)⟩
  · have hx : endsF s9 = false := by simpa using hx
    have hls : listS (lvS L).1 ks s9 = (andF (lvS L).1 s9).and fun x => if isT 1 tSemi x.2 = true then .ok (.inl (ks ++ [x.1], linesF x.2.tail)) else if isT 2 [10] x.2 = true then .ok (.inl (ks ++ [x.1], linesF x.2)) else .ok (.inr (listN (ks ++ [x.1]), x.2)) := by
      unfold listS
      rw [if_neg (by rw [hx]; decide)]
    rw [hls]
    refine kidK_spec nb6 (andOr_of hc (h6.still (drew_still _)) (hb.suf hsf9)) (show ks.length < 1000000 by omega) (fun k w' hr o => ⟨o, ?_⟩) (fun y vk10 w10 X10 hr nb10 h10 m10 => ?_)
    · rw [hr]
      rfl
    have hz1 := hea _ _ hr
    have hsy := (hsa _ _ hr).trans hsf9
    rw [hr]
    simp only [Rs.and]
    have res10 := res6.mod m10 (by intro e; omega)
    have hl1 := linesF_le y.2
    have hl2 := linesF_le y.2.tail
    have ht := tail_le y.2
    refine (take_spec h10 1 (t := tSemi) (by decide)).mono ?_
    rintro _ w11 ⟨rfl, o11, h11⟩
    have nb11 := nb10.on o11
    have res11 := res10.mod o11 (by omega)
    refine .inl ⟨_, rfl, bsel_of (fun h1 => ?_) (fun h1 => ?_)⟩
    · have h1 : isT 1 tSemi y.2 = false := by simpa using h1
      rw [h1, if_neg (by decide)] at h11
      refine allocK fun w12 r12 s12 z12 => (at_spec (h11.still s12) 2 (StrsAt.row (l := [[10]]) r12) (by decide)).mono ?_
      rintro _ w13 ⟨rfl, s13⟩
      rw [atB_one (by decide)]
      have s113 := s12.trans s13
      have nb13 := nb11.still s113
      have res13 := res11.still s113
      have h13 := h11.still s113
      refine .inl ⟨_, rfl, bsel_of (fun h2 => ?_) (fun h2 => ?_)⟩
      · have h2 : isT 2 [10] y.2 = false := by simpa using h2
        refine nExit_spec nb13 res13 (Nat.lt_succ_self _) fun w' cs' m' o' hn' => ⟨o', ?_⟩
        rw [if_neg (by rw [h1]; decide), if_neg (by rw [h2]; decide)]
        exact ⟨_, rfl, hn', h13.mod m' fun j hj e => by omega⟩
      · have h2 : isT 2 [10] y.2 = true := by simpa using h2
        refine (lines_spec h13).mono ?_
        rintro _ w15 ⟨rfl, o15, h15⟩
        refine .inl ⟨rfl, ⟨linesF y.2, ks ++ [y.1], vk10, X10, nb13.on o15, res13.mod o15 (by omega), h15, (linesF_suf _).trans hsy, by simp only [List.length_append, List.length_cons, List.length_nil]; omega, ?_⟩, by rw [h15.len, h5.len]; omega⟩
        rw [if_neg (by rw [h1]; decide), if_pos h2]
    · have h1 : isT 1 tSemi y.2 = true := by simpa using h1
      rw [h1, if_pos rfl] at h11
      refine (lines_spec h11).mono ?_
      rintro _ w16 ⟨rfl, o16, h16⟩
      refine .inl ⟨rfl, ⟨linesF y.2.tail, ks ++ [y.1], vk10, X10, nb11.on o16, res11.mod o16 (by omega), h16, (linesF_suf _).trans ((tail_suf _).trans hsy), by simp only [List.length_append, List.length_cons, List.length_nil]; omega, ?_⟩, by rw [h16.len, h5.len]; omega⟩
      rw [if_pos h1]
  · have hx : endsF s9 = true := by simpa using hx
    have hls : listS (lvS L).1 ks s9 = .ok (.inr (listN ks, s9)) := by
      unfold listS
      rw [if_pos hx]
    rw [hls]
    exact nExit_spec nb6 res6 (Nat.lt_succ_self _) fun w' cs' m' o' hn' => ⟨o', _, rfl, hn', h6.mod m' fun j hj e => by omega⟩
theorem some_of {L : Nat} (hc : CmdS L) {g : Nat} {s : Ts} (h : Pz w g s) (hb : TB s) : Calls Tryd.prog fn_syntax_parser_some #[.pointer (some ⟨g, 0, none⟩), .int .i64 (31 - (L : Int))] w (SyP w g (someF (lvS L).1 s)) := by
  refine syntax_parser_some_calls _ _ _ _ ?_
  have hg := h.lt
  have hsf : someF (lvS L).1 s = (listF (lvS L).1 s).and fun x => if x.1.ks = [] then .bad 100 else .ok x := rfl
  rw [hsf]
  refine allocK fun w1 r1 s1 z1 => (list_of hc (h.still s1) hb).mono ?_
  rintro e2 w2 ⟨o2, hp⟩
  have hz2 := o2.size
  have o12 := s1.only.tr o2
  cases hr : listF (lvS L).1 s with
  | bad k =>
    rw [hr] at hp
    exact .inr ⟨_, hp, o12, rfl⟩
  | ok y =>
  rw [hr] at hp
  obtain ⟨cs, rfl, hnd, h2⟩ := hp
  simp only [Rs.and]
  obtain ⟨pw, cw, pa, ca, pr, cr, po, co, pk, ck, rfl, _⟩ := hnd.outs
  refine .inl ⟨_, _, _, _, _, _, _, _, _, _, _, _, _, _, _, _, _, _, rfl, allocK fun w3 r3 s3 z3 => stK r3 (by simp) (by simp [Value.oneCell']) fun w4 r4 m4 z4 => ?_⟩
  have r4 : Row w4 w2.heap.size 32 ⟨ncell y.1 (.slice pw y.1.ws.length cw) (.slice pa y.1.as.length ca) (.slice pr y.1.rs.length cr) (.slice po y.1.os.length co) (.slice pk y.1.ks.length ck)⟩ := r4
  have res4 : Row w4 w.heap.size 32 ⟨zcell⟩ := ((r1.mod o2 (by omega)).still s3).mod m4 (by omega)
  have o4 : Only g w w4 := Mod.trans (o12.tr s3.only) m4 (fun _ h => h) (fun i hi e => by omega)
  have h4 := (h2.still s3).mod m4 (by intro k hk e; omega)
  have hnd4 : NdE w4 (fun k => w.heap.size + 1 ≤ k ∧ k < w4.heap.size) y.1 _ := ((hnd.still s3).mod m4 (fun k hk e => by omega)).mono fun k hk => ⟨by omega, by omega⟩
  refine ⟨_, _, _, r4.lget rfl, wantK (fun hk => ?_) (fun hk => ⟨o4, ?_⟩)⟩
  · have hk : y.1.ks ≠ [] := by
      intro e
      have := of_decide_eq_true hk
      rw [e] at this
      exact absurd this (by decide)
    rw [if_neg hk]
    exact nExit_row r4 hnd4 o4 res4 (Nat.lt_succ_self _) fun w' cs' m' o' hn' => ⟨o', _, rfl, hn', h4.mod m' fun j hj e => by omega⟩
  · have hk : y.1.ks = [] := List.eq_nil_of_length_eq_zero (by have := of_decide_eq_false hk; omega)
    rw [if_pos hk]
end Go.Proofs.YtcoeiiihmpnagaaDoor
