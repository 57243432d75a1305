/- Expressions of numbers: what the program answers. Conditions: the library's tables and errors lie as its text lays them (Env); the variables rise by name; they, and the text, are of moderate size. -/
import Derived.Test.YtgincpkggnndeaaGreatDoorArFin
namespace Go.Proofs.YtgincpkggnndeaaGreatDoor
open Go.RowKit Vc

theorem num_in {s : Txt} {n : Int} (h : numV s = some n) : I64 n := by
  have := numV_range h
  exact ⟨by omega, this.2⟩
/-- The results' boxes. -/
structure Bx (w0 w : World) (b0 b1 b2 : Nat) (x : Int) (p : Option Addr) (n C : Nat) (y : Int) : Prop where
  r0 : Row w b0 3 ⟨[.int .i64 x]⟩
  r1 : Row w b1 25 ⟨[.slice p n C]⟩
  r2 : Row w b2 36 ⟨[.int .i64 y]⟩
  st : Still w0 w
  l0 : w0.heap.size ≤ b0
  l1 : w0.heap.size ≤ b1
  l2 : w0.heap.size ≤ b2
section
variable {w0 w w' : World} {b0 b1 b2 n C : Nat} {x y : Int} {p : Option Addr}
theorem Bx.box (h : Bx w0 w b0 b1 b2 x p n C y) {g : Nat} (hg : w0.heap.size ≤ g) (h0 : b0 ≠ g) (h1 : b1 ≠ g) (h2 : b2 ≠ g) (hm : Mod (fun k => k = g) w w') : Bx w0 w' b0 b1 b2 x p n C y :=
  ⟨h.r0.mod hm h0, h.r1.mod hm h1, h.r2.mod hm h2, h.st.box hg hm, h.l0, h.l1, h.l2⟩
theorem Bx.still (h : Bx w0 w b0 b1 b2 x p n C y) (hm : Still w w') : Bx w0 w' b0 b1 b2 x p n C y := ⟨h.r0.still hm, h.r1.still hm, h.r2.still hm, h.st.trans hm, h.l0, h.l1, h.l2⟩
theorem Bx.ne01 (h : Bx w0 w b0 b1 b2 x p n C y) : b0 ≠ b1 := h.r0.ne h.r1 (by decide)
theorem Bx.ne02 (h : Bx w0 w b0 b1 b2 x p n C y) : b0 ≠ b2 := h.r0.ne h.r2 (by decide)
theorem Bx.ne12 (h : Bx w0 w b0 b1 b2 x p n C y) : b1 ≠ b2 := h.r1.ne h.r2 (by decide)
/-- The deferred call, where all went well. -/
theorem Bx.done (h : Bx w0 w b0 b1 b2 x p n C y) {R : Ending → World → Prop} (hR : R (.returned (.tuple #[.int .i64 x, .slice p n C, .int .i64 y])) w) :
    CallsD Tryz.prog fn_arith_Eval_1 #[.pointer (some ⟨b0, 0, none⟩), .pointer (some ⟨b1, 0, none⟩), .pointer (some ⟨b2, 0, none⟩)] .returning w (fun ed ux w9 => (∃ rv, ed = .returned rv) ∧ settle ux = .returning ∧ ∃ v1 : Int, w9.cell? ⟨b0, 0, none⟩ = some (.int .i64 v1) ∧ ∃ (v2 : Option Addr) (vL vC : Nat), w9.cell? ⟨b1, 0, none⟩ = some (.slice v2 vL vC) ∧ ∃ v3 : Int, w9.cell? ⟨b2, 0, none⟩ = some (.int .i64 v3) ∧ R (.returned (.tuple #[.int .i64 v1, .slice v2 vL vC, .int .i64 v3])) w9) := by
  refine (eval1_idle _ _ _ w).mono ?_
  rintro _ u w1 ⟨rfl, rfl, rfl⟩
  exact ⟨⟨_, rfl⟩, rfl, _, h.r0.lget rfl, _, _, _, h.r1.lget rfl, _, h.r2.lget rfl, hR⟩
/-- The deferred call behind an error. -/
theorem Bx.fails (h : Bx w0 w b0 b1 b2 x p n C y) {k : Nat} {R : Ending → World → Prop} (hR : ∀ w', Still w0 w' → R (.returned (.tuple #[.int .i64 0, .slice none 0 0, .int .i64 (k : Int)])) w') :
    CallsD Tryz.prog fn_arith_Eval_1 #[.pointer (some ⟨b0, 0, none⟩), .pointer (some ⟨b1, 0, none⟩), .pointer (some ⟨b2, 0, none⟩)] (.panicking (errP k)) w (fun ed ux w9 => (∃ rv, ed = .returned rv) ∧ settle ux = .returning ∧ ∃ v1 : Int, w9.cell? ⟨b0, 0, none⟩ = some (.int .i64 v1) ∧ ∃ (v2 : Option Addr) (vL vC : Nat), w9.cell? ⟨b1, 0, none⟩ = some (.slice v2 vL vC) ∧ ∃ v3 : Int, w9.cell? ⟨b2, 0, none⟩ = some (.int .i64 v3) ∧ R (.returned (.tuple #[.int .i64 v1, .slice v2 vL vC, .int .i64 v3])) w9) := by
  have d0 := h.r0.drew
  have d1 := h.r1.drew
  have d2 := h.r2.drew
  have e1 := d1.far (p := ⟨b0, 0, none⟩) h.ne01.symm (.int .i64 0)
  have e2 := d2.far (p := ⟨b0, 0, none⟩) h.ne02.symm (.int .i64 0)
  have e0 := d0.setl 0 (.int .i64 0)
  have f2 := e2.far (p := ⟨b1, 0, none⟩) h.ne12.symm (.slice none 0 0)
  have f0 := e0.far (p := ⟨b1, 0, none⟩) h.ne01 (.slice none 0 0)
  have f1 := e1.setl 0 (.slice none 0 0)
  refine (eval1_panics ⟨b0, 0, none⟩ ⟨b1, 0, none⟩ ⟨b2, 0, none⟩ k w (d0.wr 0 (by simp)) (e1.wr 0 (by simp)) (f2.wr 0 (by simp))).mono ?_
  rintro _ u w1 ⟨rfl, hu, rfl⟩
  have g0 := f0.far (p := ⟨b2, 0, none⟩) h.ne02 (.int .i64 (k : Int))
  have g1 := f1.far (p := ⟨b2, 0, none⟩) h.ne12 (.int .i64 (k : Int))
  have g2 := f2.setl 0 (.int .i64 (k : Int))
  refine ⟨⟨_, rfl⟩, hu, _, g0.lget rfl, _, _, _, g1.lget rfl, _, g2.lget rfl, hR _ ?_⟩
  exact ((h.st.drew.setCell (.inr h.l0) _).setCell (.inr h.l1) _).setCell (.inr h.l2) _
end
theorem peval_spec {w : World} (he : Env w) {p : Option Addr} {n C : Nat} {V : List Vr} {s : Txt} (hv : VarAt w p n C V) (hr : Rising V) (htx : ∀ v ∈ V, v.value.length ≤ 140737488355328) (_hs : s.length ≤ 800000) (hV : V.length + s.length < 900000) :
    Calls Tryz.prog fn_arith_Eval #[.string (S s), .slice p n C] w (EvAns w (evalR s V)) := by
  have hn := hv.1
  subst hn
  have htl := trim_len s
  refine arith_Eval_calls _ _ _ _ _ _ ?_
  refine allocK fun w1 q1 s1 z1 => allocK fun w2 q2 s2 z2 => allocK fun w3 q3 s3 z3 => allocK fun w4 q4 s4 z4 => ?_
  have hst4 : Still w w4 := ((s1.trans s2).trans s3).trans s4
  have bx4 : Bx w w4 w.heap.size w1.heap.size w2.heap.size 0 none 0 0 0 := ⟨q1.still ((s2.trans s3).trans s4), q2.still (s3.trans s4), q3.still s4, hst4, by omega, by omega, by omega⟩
  have gn0 : w.heap.size ≠ w3.heap.size := by omega
  have gn1 : w1.heap.size ≠ w3.heap.size := by omega
  have gn2 : w2.heap.size ≠ w3.heap.size := by omega
  have gle : w.heap.size ≤ w3.heap.size := by omega
  have hp4 : PRow w4 w3.heap.size s := q4
  generalize w3.heap.size = g at *
  generalize w2.heap.size = b2 at *
  generalize w1.heap.size = b1 at *
  generalize hb0 : w.heap.size = b0 at bx4 gn0 ⊢
  clear q1 q2 q3 q4 s1 s2 s3 s4
  have ee : evalR s V = if trim s = [] then .ok (0, V) else match rd (trim s) with
    | .bad k => .bad k
    | .ok p => if trim p.2 = [] then ev p.1 V else .bad 130 := rfl
  refine (op_spec hp4).mono ?_
  rintro _ w5 ⟨rfl, hp5, hm5⟩
  have bx5 := bx4.box gle gn0 gn1 gn2 hm5
  refine .inl ⟨_, rfl, _, hp5.lget rfl, bsel_of (fun hx => ?_) (fun hx => ?_)⟩
  · have hx := of_decide_eq_true hx
    rw [if_pos hx] at ee
    refine stK bx5.r0 (by simp) (by simp [Value.oneCell']) fun w6 r6 m6 _ => ?_
    refine stK (bx5.r1.mod m6 bx5.ne01.symm) (by simp) (by simp [Value.oneCell']) fun w7 r7 m7 _ => ?_
    refine stK ((bx5.r2.mod m6 bx5.ne02.symm).mod m7 bx5.ne12.symm) (by simp) (by simp [Value.oneCell']) fun w8 r8 m8 _ => ?_
    have hst8 : Still w w8 := ((bx5.st.box bx5.l0 m6).box bx5.l1 m7).box bx5.l2 m8
    have bx8 : Bx w w8 b0 b1 b2 0 p V.length C 0 := ⟨(r6.mod m7 bx5.ne01).mod m8 bx5.ne02, r7.mod m8 bx5.ne12, r8, hst8, bx5.l0, bx5.l1, bx5.l2⟩
    refine bx8.done ?_
    rw [ee]
    exact ⟨⟨(show I64 0 by decide), p, C, rfl, hv.still hst8⟩, hst8⟩
  have hx := of_decide_eq_false hx
  rw [if_neg hx] at ee
  have fails : ∀ {w' : World} {x y : Int} {pp : Option Addr} {nn CC k : Nat}, evalR s V = .bad k → Bx w w' b0 b1 b2 x pp nn CC y → CallsD Tryz.prog fn_arith_Eval_1 #[.pointer (some ⟨b0, 0, none⟩), .pointer (some ⟨b1, 0, none⟩), .pointer (some ⟨b2, 0, none⟩)] (.panicking (errP k)) w' (fun ed ux w9 => (∃ rv, ed = .returned rv) ∧ settle ux = .returning ∧ ∃ v1 : Int, w9.cell? ⟨b0, 0, none⟩ = some (.int .i64 v1) ∧ ∃ (v2 : Option Addr) (vL vC : Nat), w9.cell? ⟨b1, 0, none⟩ = some (.slice v2 vL vC) ∧ ∃ v3 : Int, w9.cell? ⟨b2, 0, none⟩ = some (.int .i64 v3) ∧ EvAns w (evalR s V) (.returned (.tuple #[.int .i64 v1, .slice v2 vL vC, .int .i64 v3])) w9) := by
    intro w' x y pp nn CC k hk hb
    refine hb.fails fun w'' hs'' => ?_
    rw [hk]
    exact ⟨rfl, hs''⟩
  have hps := parse_spec he gle _ _ _ _ (rd_eq (trim s)) bx5.st hp5 (by simp only [dep]; omega)
  have hps : Calls _ _ _ _ _ := hps
  refine hps.mono ?_
  intro e w10 h10
  have hsz := fun t r => ps_sz (50 * (trim s).length + 100) (.expr 1) (trim s) t r
  rw [rd_eq] at hsz
  have hcl := rd_cl (trim s)
  generalize rd (trim s) = rq at *
  cases rq with
  | bad k =>
    obtain ⟨rfl, hm10⟩ := h10
    exact .inr ⟨_, rfl, fails ee (bx5.box gle gn0 gn1 gn2 hm10)⟩
  | ok pr =>
    obtain ⟨t, r⟩ := pr
    obtain ⟨⟨b, rfl, ht10, hp10⟩, hm10⟩ := h10
    have hsz := hsz t r rfl
    simp only [accSz] at hsz
    dsimp only at ee hp10 ht10
    have bx10 := bx5.box gle gn0 gn1 gn2 hm10
    refine .inl ⟨_, rfl, (op_spec hp10).mono ?_⟩
    rintro _ w11 ⟨rfl, hp11, hm11⟩
    have bx11 := bx10.box gle gn0 gn1 gn2 hm11
    have ht11 := PRow.tree hp10 ht10 hm11
    refine .inl ⟨_, rfl, _, hp11.lget rfl, (want_spec _ 130).mono ?_⟩
    rintro _ w12 ⟨h12, rfl⟩
    by_cases htr : trim r = []
    rotate_left
    · rw [decide_eq_false htr, if_neg (by decide)] at h12
      rw [if_neg htr] at ee
      subst h12
      exact .inr ⟨_, rfl, fails ee bx11⟩
    rw [decide_eq_true htr, if_pos rfl] at h12
    rw [if_pos htr] at ee
    subst h12
    refine .inl ⟨rfl, allocK fun w13 r13 s13 z13 => ?_⟩
    have bx13 := bx11.still s13
    have hw13 : WS w13 w12.heap.size V := ⟨⟨p, C, r13, hv.still bx13.st⟩, hr, htx⟩
    have lb := bx11.st.size
    have g0 := bx11.r0.lt
    have g1 := bx11.r1.lt
    have g2 := bx11.r2.lt
    have hok : TmOk t := Cl_ok hcl t r rfl (fun _ _ _ e => by cases e)
    refine (eval_spec he lb t bx13.st hok (ht11.still s13) hw13 (by omega)).mono ?_
    rintro e w14 ⟨h14, hm14⟩
    have bx14 := bx13.box lb (by omega) (by omega) (by omega) hm14
    cases hev : ev t V with
    | bad k =>
      rw [hev] at h14 ee
      subst h14
      exact .inr ⟨_, rfl, fails ee bx14⟩
    | ok z =>
      rw [hev] at h14 ee
      obtain ⟨rfl, hw14, hi, _⟩ := h14
      obtain ⟨⟨pp, CC, hrow, hvar⟩, _, _⟩ := hw14
      refine .inl ⟨_, rfl, ?_⟩
      generalize w12.heap.size = gw at *
      refine stK bx14.r0 (by simp) (by simp [Value.oneCell']) fun w15 r15 m15 _ => ?_
      have ne0 : b0 ≠ gw := by omega
      have hrow15 := hrow.mod m15 ne0.symm
      refine ⟨fun wq => wq.cell? ⟨b0, 0, none⟩ = some (.int .i64 z.1) ∧ wq.cell? ⟨gw, 0, none⟩ = some (.slice pp z.2.length CC), ⟨r15.drew.lget rfl, hrow15.drew.lget rfl⟩, z.1, fun wq hq => hq.1, pp, _, CC, fun wq hq => hq.2, ?_⟩
      refine stK r15.drew (by simp [ovw]) (by simp [Value.oneCell']) fun w16 r16 m16 _ => ⟨⟨r16.lget rfl, (hrow15.drew.mod m16 ne0.symm).lget rfl⟩, ?_⟩
      have md : Mod (fun k => k = b0) w14 w16 := mod_trans m15 (drew_mod m16)
      have bx1 := bx14.ne01
      have bx2 := bx14.ne02
      have bx3 := bx14.ne12
      refine stK (bx14.r1.mod md bx1.symm) (by simp) (by simp [Value.oneCell']) fun w17 r17 m17 _ => ?_
      refine stK ((bx14.r2.mod md bx2.symm).mod m17 bx3.symm) (by simp) (by simp [Value.oneCell']) fun w18 r18 m18 _ => ?_
      have hst18 : Still w w18 := ((bx14.st.box bx14.l0 md).box bx14.l1 m17).box bx14.l2 m18
      have bx18 : Bx w w18 b0 b1 b2 z.1 pp z.2.length CC 0 := ⟨(r16.mod m17 bx1).mod m18 bx2, r17.mod m18 bx3, r18, hst18, bx14.l0, bx14.l1, bx14.l2⟩
      refine bx18.done ?_
      rw [ee]
      refine ⟨⟨hi, pp, CC, rfl, ?_⟩, hst18⟩
      -- the variables stand where they stood: no box of the results is one of theirs
      refine ⟨hvar.1, hvar.2.1, fun hpos => ?_⟩
      obtain ⟨a, ha, hc⟩ := hvar.2.2 hpos
      refine ⟨a, ha, fun j u hu => ?_⟩
      have hcell := hc j u hu
      have hblk : ∀ {g : Nat} {tt : TypeId} {v : Value}, Row w14 g tt ⟨[v]⟩ → (∀ x, v ≠ .string x) → a.block ≠ g := by
        intro g tt v hrw hnv hb
        have hv0 : ∃ t, (vcs z.2)[0]? = some (.string t) := by
          have := hvar.1
          cases hz : z.2 with
          | nil => rw [hz] at hpos; simp at hpos
          | cons v l => exact ⟨_, rfl⟩
        obtain ⟨t0, ht0⟩ := hv0
        have hc0 := hc 0 _ ht0
        rw [show a.add 0 = a from rfl] at hc0
        obtain ⟨fz, hh, _⟩ := hrw
        unfold World.cell? at hc0
        rw [hb, hh] at hc0
        dsimp only at hc0
        split at hc0
        · cases hc0
        · cases hao : a.off with
          | zero => rw [hao] at hc0; simp at hc0; exact hnv _ hc0
          | succ n => rw [hao] at hc0; simp at hc0
      have hbj : (a.add j).block = a.block := by unfold Addr.add; split <;> rfl
      have hlt := World.block_lt_of_cell? _ _ hcell
      have n0 := hblk bx14.r0 (by intro x h; cases h)
      have n1 := hblk bx14.r1 (by intro x h; cases h)
      have n2 := hblk bx14.r2 (by intro x h; cases h)
      have c16 := (World.cell?_of_block (md.block _ hlt (by rw [hbj]; exact n0))).trans hcell
      have c17 := (World.cell?_of_block (m17.block _ (World.block_lt_of_cell? _ _ c16) (by rw [hbj]; exact n1))).trans c16
      exact (World.cell?_of_block (m18.block _ (World.block_lt_of_cell? _ _ c17) (by rw [hbj]; exact n2))).trans c17
end Go.Proofs.YtgincpkggnndeaaGreatDoor
