/- The program's parser of scripts, whole. Conditions: as each theorem names them. -/
import Derived.Test.YtcoeiiihmpnagaaDoorSyParD
import Derived.Test.YtcoeiiihmpnagaaDoorSyTb
namespace Go.Proofs.YtcoeiiihmpnagaaDoor
open Go.RowKit Vc
variable {w : World}

theorem zero_nde (w : World) (F : Nat → Prop) : NdE w F nd0 zcell := by
  refine ⟨_, _, _, _, none, 0, rfl, ?_, ?_, ?_, ?_, Nat.le_refl _, fun h => absurd rfl h⟩
  · exact ⟨none, 0, rfl, Nat.le_refl _, fun h => absurd rfl h⟩
  · exact ⟨none, 0, rfl, Nat.le_refl _, fun h => absurd rfl h⟩
  · exact ⟨none, 0, rfl, Nat.le_refl _, fun h => absurd rfl h⟩
  · exact ⟨none, 0, rfl, Nat.le_refl _, fun h => absurd rfl h⟩
theorem tc_cs (w : World) (F : Nat → Prop) : ∀ l : List Tok, tkE.Cs w F l (tc l)
  | [] => rfl
  | x :: r => ⟨[.int .i64 (x.1 : Int), .string (S x.2)], tc r, rfl, rfl, tc_cs w F r⟩
theorem toks_at {B : Nat} {v : Value} {l : List Tok} (hv : ∃ p C, v = .slice p l.length C) (h : Owns w B 62 2 v l.length (tc l)) : tkE.At w (fun k => B ≤ k ∧ k < w.heap.size) l v := by
  obtain ⟨p, C, rfl⟩ := hv
  exact Enc.OutX.at (X := fun k => k < w.heap.size) (gn := w.heap.size) ⟨p, C, tc l, rfl, h, fun k hk => ⟨(h.lt k hk).2, Nat.ne_of_lt (h.lt k hk).2⟩, tc_cs _ _ _⟩
theorem parse_done {w4 : World} {ge : Nat} {x : Nd} {cs : List Value} {er : Int} {R : Ending → World → Prop} (hr : Row w4 w.heap.size 32 ⟨cs⟩) (he : Row w4 ge 33 ⟨[.int .i64 er]⟩) (hn : NdE w4 (fun k => w.heap.size ≤ k ∧ k < w4.heap.size) x cs)
    (hR : R (.returned (.tuple #[.agg ⟨cs⟩, .int .i64 er])) w4) : ∃ vKind : Int, ∃ vNot : Bool, ∃ vName : List UInt8, ∃ (vWords : Option Addr) (vWordsL vWordsC : Nat), ∃ (vAssigns : Option Addr) (vAssignsL vAssignsC : Nat), ∃ (vRedirs : Option Addr) (vRedirsL vRedirsC : Nat), ∃ (vOps : Option Addr) (vOpsL vOpsC : Nat), ∃ (vKids : Option Addr) (vKidsL vKidsC : Nat), w4.cell? (Addr.mk w.heap.size 0 none) = some (.int .i64 vKind) ∧ w4.cell? (Addr.mk w.heap.size 1 none) = some (.bool vNot) ∧ w4.cell? (Addr.mk w.heap.size 2 none) = some (.string (S vName)) ∧ w4.cell? (Addr.mk w.heap.size 3 none) = some (.slice vWords vWordsL vWordsC) ∧ w4.cell? (Addr.mk w.heap.size 4 none) = some (.slice vAssigns vAssignsL vAssignsC) ∧ w4.cell? (Addr.mk w.heap.size 5 none) = some (.slice vRedirs vRedirsL vRedirsC) ∧ w4.cell? (Addr.mk w.heap.size 6 none) = some (.slice vOps vOpsL vOpsC) ∧ w4.cell? (Addr.mk w.heap.size 7 none) = some (.slice vKids vKidsL vKidsC) ∧ ∃ v2 : Int, w4.cell? (Addr.mk ge 0 none) = some (.int .i64 v2) ∧ R (.returned (.tuple #[(.agg #[(.int .i64 vKind), (.bool vNot), (.string (S vName)), (.slice vWords vWordsL vWordsC), (.slice vAssigns vAssignsL vAssignsC), (.slice vRedirs vRedirsL vRedirsC), (.slice vOps vOpsL vOpsC), (.slice vKids vKidsL vKidsC)]), (.int .i64 v2)])) w4 := by
  obtain ⟨pw, cw, pa, ca, pr, cr, po, co, pk, ck, rfl, _⟩ := hn.outs
  exact ⟨_, _, _, _, _, _, _, _, _, _, _, _, _, _, _, _, _, _, hr.lget rfl, hr.lget rfl, hr.lget rfl, hr.lget rfl, hr.lget rfl, hr.lget rfl, hr.lget rfl, hr.lget rfl, _, he.lget rfl, hR⟩
def Parsed (w : World) (r : Nd × Int) (e : Ending) (w' : World) : Prop := ∃ cs, e = .returned (.tuple #[.agg ⟨cs⟩, .int .i64 r.2]) ∧ NdE w' (fun k => w.heap.size ≤ k ∧ k < w'.heap.size) r.1 cs ∧ Still w w'
theorem parse_spec (s : Txt) : Calls Tryd.prog fn_syntax_Parse #[.string (S s)] w (Parsed w (parseR s)) := by
  refine syntax_Parse_calls _ _ _ ?_
  refine allocK fun w1 r1 s1 z1 => allocK fun w2 r2 s2 z2 => (tokens_spec s).mono ?_
  rintro _ w3 ⟨p, C, rfl, ho, s3⟩
  have res3 : Row w3 w.heap.size 32 ⟨zcell⟩ := (r1.still s2).still s3
  have er3 := r2.still s3
  have hz3 := s3.size
  refine .inl ⟨_, _, _, _, rfl, stK er3 (by simp) (by simp [Value.oneCell']) fun w4 er4 m4 z4 => ?_⟩
  have er4 : Row w4 w1.heap.size 33 ⟨[.int .i64 (tokRes s).2]⟩ := er4
  have res4 := res3.mod m4 (by omega)
  have s04 : Still w w4 := Mod.trans ((s1.trans s2).trans s3) m4 (fun _ h => h) (fun i hi e => by omega)
  have hat := (toks_at ⟨_, _, rfl⟩ ho)
  refine ⟨_, er4.lget rfl, bsel_of (fun hx => ?_) (fun hx => ?_)⟩
  · have hne : (tokRes s).2 ≠ 0 := by simpa using hx
    have hp : parseR s = (nd0, (tokRes s).2) := by unfold parseR; rw [if_neg hne]
    rw [hp]
    have er4' := er4.still (drew_still w4)
    have res4' := res4.still (drew_still w4)
    refine ⟨fun wq => wq.cell? (Addr.mk w1.heap.size 0 none) = some (.int .i64 (tokRes s).2), er4'.lget rfl, _, fun _ h => h, stK res4' (by simp) (by simp [Value.oneCell']) fun w5 r5 m5 z5 => ?_⟩
    have er5 := er4'.mod m5 (by omega)
    refine ⟨er5.lget rfl, stK er5 (by simp) (by simp [Value.oneCell']) fun w6 er6 m6 z6 => ?_⟩
    have r6 : Row w6 w.heap.size 32 ⟨zcell⟩ := (show Row w5 w.heap.size 32 ⟨zcell⟩ from r5).mod m6 (by omega)
    have s06 : Still w w6 := Mod.trans (Mod.trans (s04.trans (drew_still w4)) m5 (fun _ h => h) (fun i hi e => by omega)) m6 (fun _ h => h) (fun i hi e => by omega)
    exact parse_done r6 er6 (zero_nde _ _) ⟨_, rfl, zero_nde _ _, s06⟩
  · have he0 : (tokRes s).2 = 0 := by simpa using hx
    have hp : parseR s = match scriptF (tokRes s).1 with
      | .ok x => (x, 0)
      | .bad k => (nd0, (k : Int)) := by unfold parseR; rw [if_pos he0]; cases scriptF (tokRes s).1 <;> rfl
    rw [hp]
    have hb := tokRes_tb s
    rw [he0] at er4
    generalize (tokRes s).1 = ts at *
    refine allocK fun w7 r7 s7 z7 => ?_
    have er7 := er4.still s7
    have res7 := res4.still s7
    have hpz : Pz w7 w4.heap.size ts := by
      refine ⟨p, C, r7, ?_⟩
      refine hat.turn (fun k hk => by omega) fun a v ⟨k, hk, ea⟩ hcell => s7.cell (mod_cell m4 (by rw [ea]; omega) hcell)
    have hl := list_of (L := 30) (sy_levels 30 (by omega)).1 hpz hb
    have e1 : (31 - ((30 : Nat) : Int)) = 1 := by decide
    rw [e1] at hl
    refine hl.mono ?_
    rintro e8 w8 ⟨o8, hr8⟩
    have er8 := er7.mod o8 (by omega)
    have res8 := res7.mod o8 (by omega)
    have hz8 := o8.size
    have hz7 : w.heap.size + 2 ≤ w4.heap.size := by omega
    have s08 : Still w w8 := Mod.trans (s04.trans s7) o8 (fun _ h => h) (fun i hi e => by omega)
    have panics : ∀ (k : Nat) (w9 : World) (cs : List Value) (hcs : cs.length = 8), Row w9 w.heap.size 32 ⟨cs⟩ → Row w9 w1.heap.size 33 ⟨[.int .i64 0]⟩ → Still w w9 → ∀ K : Ending → FrameMode → World → Prop, (∀ w', Row w' w.heap.size 32 ⟨zcell⟩ → Row w' w1.heap.size 33 ⟨[.int .i64 (k : Int)]⟩ → Still w w' → ∀ u, settle u = .returning → K (.returned (.tuple #[])) u w') →
        CallsD Tryd.prog fn_syntax_Parse_1 #[.pointer (some ⟨w.heap.size, 0, none⟩), .pointer (some ⟨w1.heap.size, 0, none⟩)] (.panicking (errP k)) w9 K := by
      intro k w9 cs hcs hr9 he9 s9 K hK
      refine (parse_panics ⟨w.heap.size, 0, none⟩ ⟨w1.heap.size, 0, none⟩ k w9 (fun w' => Row w' w.heap.size 32 ⟨zcell⟩ ∧ Row w' w1.heap.size 33 ⟨[.int .i64 (k : Int)]⟩ ∧ Still w w') ?_).mono ?_
      · have hr9' := hr9.still (drew_still w9)
        have he9' := he9.still (drew_still w9)
        obtain ⟨a0, a1, a2, a3, a4, a5, a6, a7, rfl⟩ : ∃ a0 a1 a2 a3 a4 a5 a6 a7, cs = [a0, a1, a2, a3, a4, a5, a6, a7] := by
          match cs, hcs with
          | [a0, a1, a2, a3, a4, a5, a6, a7], _ => exact ⟨_, _, _, _, _, _, _, _, rfl⟩
        refine stK hr9' (by simp) (by simp [Value.oneCell']) fun wa ra ma za => stK (he9'.mod ma (by omega)) (by simp) (by simp [Value.oneCell']) fun wb rb mb zb => ⟨(show Row wa w.heap.size 32 ⟨zcell⟩ from ra).mod mb (by omega), rb, ?_⟩
        exact Mod.trans (Mod.trans (s9.trans (drew_still w9)) ma (fun _ h => h) (fun i hi e => by omega)) mb (fun _ h => h) (fun i hi e => by omega)
      · rintro _ u w' ⟨rfl, hu, h1, h2, h3⟩
        exact hK w' h1 h2 h3 u hu
    have hsf : scriptF ts = (listF (lvS 30).1 ts).and fun x => if x.2 = [] then .ok x.1 else .bad 100 := rfl
    rw [hsf]
    clear hsf
    cases hr : listF (lvS 30).1 ts with
    | bad k =>
      rw [hr] at hr8
      refine .inr ⟨_, hr8, panics k w8 zcell rfl res8 er8 s08 _ fun w' h1 h2 h3 u hu => ?_⟩
      exact ⟨⟨_, rfl⟩, hu, parse_done h1 h2 (zero_nde _ _) ⟨_, rfl, zero_nde _ _, h3⟩⟩
    | ok y =>
    rw [hr] at hr8
    obtain ⟨cs, rfl, hnd, h8⟩ := hr8
    obtain ⟨pw, cw, pa, ca, pr, cr, po, co, pk, ck, rfl, _⟩ := hnd.outs
    rw [Rs.ok_and]
    refine .inl ⟨_, _, _, _, _, _, _, _, _, _, _, _, _, _, _, _, _, _, rfl, stK res8 (by simp) (by simp [Value.oneCell']) fun w9 r9 m9 z9 => ?_⟩
    have er9 := er8.mod m9 (by omega)
    have s09 : Still w w9 := Mod.trans s08 m9 (fun _ h => h) (fun i hi e => by omega)
    have hnd9 := (hnd.mod m9 fun k hk (e : k = w.heap.size) => by have hk1 : w7.heap.size ≤ k := hk.1; omega)
    have hz9 := m9.size
    obtain ⟨a9, c9, hrow8, _⟩ := h8
    have hrow9 := hrow8.mod m9 (by omega)
    have r9 : Row w9 w.heap.size 32 ⟨ncell y.1 (.slice pw y.1.ws.length cw) (.slice pa y.1.as.length ca) (.slice pr y.1.rs.length cr) (.slice po y.1.os.length co) (.slice pk y.1.ks.length ck)⟩ := r9
    refine ⟨a9, y.2.length, c9, hrow9.lget rfl, (swant_spec _).mono ?_⟩
    rintro _ w10 ⟨rfl, rfl⟩
    by_cases hy : y.2 = []
    · rw [if_pos hy]
      rw [if_pos (by rw [hy]; decide)]
      refine .inl ⟨rfl, _, _, _, _, _, _, _, _, _, _, _, _, _, _, _, _, _, _, r9.lget rfl, r9.lget rfl, r9.lget rfl, r9.lget rfl, r9.lget rfl, r9.lget rfl, r9.lget rfl, r9.lget rfl, stK r9 (by simp) (by simp [Value.oneCell']) fun w11 r11 m11 z11 => stK (er9.mod m11 (by omega)) (by simp) (by simp [Value.oneCell']) fun w12 er12 m12 z12 => (parse_idle _ _ _).mono ?_⟩
      rintro _ u w13 ⟨rfl, rfl, rfl⟩
      have r11 : Row w11 w.heap.size 32 ⟨ncell y.1 (.slice pw y.1.ws.length cw) (.slice pa y.1.as.length ca) (.slice pr y.1.rs.length cr) (.slice po y.1.os.length co) (.slice pk y.1.ks.length ck)⟩ := r11
      have hn12 := ((hnd9.mod m11 fun k hk (e : k = w.heap.size) => by have hk1 : w7.heap.size ≤ k := hk.1; omega).mod m12 fun k hk (e : k = w1.heap.size) => by have hk1 : w7.heap.size ≤ k := hk.1; omega).mono (G := fun k => w.heap.size ≤ k ∧ k < w13.heap.size) fun k hk => by
        have hk1 : w7.heap.size ≤ k := hk.1
        have hk2 : k < w8.heap.size := hk.2
        exact ⟨by omega, by omega⟩
      have s12 : Still w w13 := Mod.trans (Mod.trans s09 m11 (fun _ h => h) (fun i hi e => by omega)) m12 (fun _ h => h) (fun i hi e => by omega)
      exact ⟨⟨_, rfl⟩, rfl, parse_done (r11.mod m12 (by omega)) er12 hn12 ⟨_, rfl, hn12, s12⟩⟩
    · rw [if_neg hy]
      have hd : decide (((y.2.length : Nat) : Int) = (0 : Int)) = false := decide_eq_false fun e => hy (List.eq_nil_of_length_eq_zero (by omega))
      rw [hd, if_neg (by decide)]
      refine .inr ⟨_, rfl, panics 100 w10 _ rfl r9 er9 s09 _ fun w' h1 h2 h3 u hu => ?_⟩
      exact ⟨⟨_, rfl⟩, hu, parse_done h1 h2 (zero_nde _ _) ⟨_, rfl, zero_nde _ _, h3⟩⟩
end Go.Proofs.YtcoeiiihmpnagaaDoor
