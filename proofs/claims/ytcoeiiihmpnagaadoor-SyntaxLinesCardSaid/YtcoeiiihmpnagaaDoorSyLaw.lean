/- Scripts: the laws' common functions. Printed by a program (wip/tools/syawake.py). Conditions: as each theorem names them. -/
import Derived.Test.YtcoeiiihmpnagaaDoorSyParse
import Derived.Test.YtcoeiiihmpnagaaDoorSyNz
import Derived.Test.YtcoeiiihmpnagaaDoorNdSame
import Derived.Test.YtcoeiiihmpnagaaDoorStrs
namespace Go.Proofs.YtcoeiiihmpnagaaDoor
open Go.RowKit Vc
variable {w : World}

/-! ### What is parsed is small -/
theorem toks_tw : ∀ (n : Nat) (s : Txt), s.length ≤ n → ∀ l, toks s = some l → tw l ≤ 40 * s.length
  | _, [], _, l, h => by
    rw [toks_nil] at h
    obtain rfl := Option.some.inj h
    exact Nat.le_refl _
  | 0, a :: r, hn, _, _ => by simp only [List.length_cons] at hn; omega
  | n + 1, a :: r, hn, l, h => by
    rw [toks_cons] at h
    cases h1 : tokOne a r with
    | none => rw [h1] at h; cases h
    | some y =>
      obtain ⟨l1, t⟩ := y
      rw [h1] at h
      simp only [Option.bind] at h
      cases h2 : toks t with
      | none => rw [h2] at h; cases h
      | some m =>
        rw [h2] at h
        obtain rfl := Option.some.inj h
        have hlen := tokOne_length h1
        simp only [List.length_cons] at hn ⊢
        have i1 := toks_tw n t (by omega) m h2
        rcases tokOne_view h1 with ⟨_, rfl, rfl⟩ | ⟨_, rfl, rfl⟩ | ⟨_, rfl, rfl⟩ | ⟨_, _, rfl, rfl⟩ | ⟨_, _, p, hp, hpt, _, rfl⟩
        · simp only [List.nil_append]; omega
        · simp only [List.nil_append]; omega
        · simp only [List.cons_append, List.nil_append, tw, List.length_cons, List.length_nil]; omega
        · have ho := opLen_le (a := a) (r := r)
          simp only [List.length_cons, List.length_drop] at ho i1
          simp only [List.cons_append, List.nil_append, tw, List.length_take, List.length_cons]
          omega
        · have hl := congrArg List.length hpt
          have h0 : 0 < p.length := List.length_pos_iff.2 hp
          simp only [List.length_cons, List.length_append] at hl
          simp only [List.cons_append, List.nil_append, tw]
          omega
theorem tokRes_tw (s : Txt) : tw (tokRes s).1 ≤ 800000 := by
  unfold tokRes
  split
  · exact Nat.zero_le _
  · split
    · rename_i h20 _ l hl
      have := toks_tw _ s (Nat.le_refl _) l hl
      show tw l ≤ _
      omega
    · exact Nat.zero_le _
theorem parseR_wt (s : Txt) : (parseR s).1.wt ≤ 1000000 := by
  have h := tokRes_tw s
  have h0 : nd0.wt ≤ 1000000 := by decide
  unfold parseR
  split
  · split
    · rename_i x hx
      have := scriptF_wt hx
      show x.wt ≤ _
      omega
    · exact h0
  · exact h0
theorem parseR_ok {s : Txt} (h : (parseR s).2 = 0) : s.length ≤ 20000 ∧ ∃ l, toks s = some l ∧ scriptF l = .ok (parseR s).1 := by
  unfold parseR at h ⊢
  split at h
  · rename_i h0
    rw [if_pos h0]
    cases hx : scriptF (tokRes s).1 with
    | bad k =>
      rw [hx] at h
      have h : (k : Int) = 0 := h
      have : k = 0 := by omega
      exact absurd (this ▸ hx) (scriptF_nz _)
    | ok x =>
      unfold tokRes at h0 hx
      by_cases h20 : 20000 < s.length
      · rw [if_pos h20] at h0
        exact absurd h0 (by decide)
      rw [if_neg h20] at h0 hx
      cases ht : toks s with
      | none =>
        rw [ht] at h0
        exact absurd h0 (by decide)
      | some l =>
        rw [ht] at hx
        exact ⟨by omega, l, rfl, hx⟩
  · rename_i h0
    exact absurd h h0
theorem parseR_bad {s : Txt} (h : (parseR s).2 ≠ 0) : (parseR s).1 = nd0 := by
  unfold parseR at h ⊢
  split
  · rename_i h0
    rw [if_pos h0] at h
    cases hx : scriptF (tokRes s).1 with
    | bad k => rfl
    | ok x =>
      rw [hx] at h
      exact absurd rfl h
  · rfl
theorem parseR_of {s : Txt} {l : Ts} {x : Nd} (h1 : s.length ≤ 20000) (h2 : toks s = some l) (h3 : scriptF l = .ok x) : parseR s = (x, 0) := by
  have : tokRes s = (l, 0) := by unfold tokRes; rw [if_neg (by omega), h2]
  unfold parseR
  rw [this, if_pos rfl, h3]

/-! ### What a call tells of a node -/
theorem Enc.Cs.two {α : Type} {e : Enc α} {F : Nat → Prop} {x y : α} {cs ds : List Value} (h1 : e.E w F x cs) (h2 : e.E w F y ds) : e.Cs w F [x, y] (cs ++ ds) := ⟨cs, ds, rfl, h1, ds, [], (List.append_nil _).symm, h2, rfl⟩
def GotN (w : World) (x : Nd) (r : Value → Value) (e : Ending) (w' : World) : Prop := ∃ pw cw pa ca pr cr po co pk ck, e = .returned (r (.agg ⟨ncell x (.slice pw x.ws.length cw) (.slice pa x.as.length ca) (.slice pr x.rs.length cr) (.slice po x.os.length co) (.slice pk x.ks.length ck)⟩)) ∧
  NdE w' (fun k => w.heap.size ≤ k ∧ k < w'.heap.size) x (ncell x (.slice pw x.ws.length cw) (.slice pa x.as.length ca) (.slice pr x.rs.length cr) (.slice po x.os.length co) (.slice pk x.ks.length ck)) ∧ Still w w'
theorem parse_got (s : Txt) : Calls Tryd.prog fn_syntax_Parse #[.string (S s)] w (GotN w (parseR s).1 fun v => .tuple #[v, .int .i64 (parseR s).2]) := by
  refine (parse_spec s).mono ?_
  rintro _ w1 ⟨cs, rfl, hn, s1⟩
  obtain ⟨pw, cw, pa, ca, pr, cr, po, co, pk, ck, rfl, _⟩ := hn.outs
  exact ⟨pw, cw, pa, ca, pr, cr, po, co, pk, ck, rfl, hn, s1⟩
def smp (s : Txt) : Nd := .mk 0 false [] [[tx false s]] [] [] [] []
theorem lawsmp_spec (s : Txt) : Calls Tryd.prog fn_law09_simple #[.string (S s)] w (GotN w (smp s) fun v => v) := by
  refine law09_simple_calls _ _ _ ?_
  refine allocK fun w1 r1 s1 z1 => allocK fun w2 r2 s2 z2 => allocK fun w3 r3 s3 z3 => stK ((r1.still s2).still s3) (by simp) (by simp [Value.oneCell']) fun w4 r4 m4 z4 => ?_
  have s4 : Still w w4 := Mod.trans ((s1.trans s2).trans s3) m4 (fun _ h => h) (fun i hi e => by omega)
  have r2 := (r2.still s3).mod m4 (by omega)
  have r3 := r3.mod m4 (by omega)
  refine ⟨_, _, _, _, _, _, _, _, _, _, _, _, _, _, _, _, _, _, r4.lget rfl, r4.lget rfl, r4.lget rfl, r4.lget rfl, r4.lget rfl, r4.lget rfl, r4.lget rfl, r4.lget rfl, ?_⟩
  refine ⟨_, _, _, _, _, _, _, _, _, _, rfl, ?_, s4⟩
  have e1 : (smp s).ws.length = 1 := rfl
  have hsl : SlAt w4 (fun k => w.heap.size ≤ k ∧ k < w4.heap.size) [tx false s] (.slice (some ⟨w1.heap.size, 0, none⟩) 1 1) :=
    ⟨_, _, rfl, Nat.le_refl _, fun _ => ⟨_, rfl, by show w.heap.size ≤ w1.heap.size ∧ w1.heap.size < w4.heap.size; omega, Cs.at (l := [tx false s]) (xs := pcell (tx false s) (.slice none 0 0)) ⟨.slice none 0 0, [], (List.append_nil _).symm, SlAt.nil _ _ _ _, rfl⟩ fun j u hu => by rw [add_row, Nat.zero_add]; exact r2.lget hu⟩⟩
  exact NdE.of (x := smp s) (Enc.At.row (l := [[tx false s]]) r3 (Enc.Cs.single ⟨_, rfl, hsl⟩) (by show w.heap.size ≤ w2.heap.size ∧ w2.heap.size < w4.heap.size; omega) (Nat.le_refl 1)) (Enc.At.nil _ _ _ _ _) (Enc.At.nil _ _ _ _ _) (Enc.At.nil _ _ _ _ _) (Enc.At.nil _ _ _ _ _)
def ph09 : List Txt := [[105, 102, 32, 97, 59, 32, 116, 104, 101, 110, 32, 98, 59, 32, 102, 105], [59, 32], [10], [119, 104, 105, 108, 101, 32, 97, 59, 32, 100, 111, 32, 98, 59, 32, 100, 111, 110, 101], [102, 111, 114, 32, 120, 32, 105, 110, 32, 97, 32, 98, 59, 32, 100, 111, 32, 99, 59, 32, 100, 111, 110, 101], [99, 97, 115, 101, 32, 36, 120, 32, 105, 110, 32, 40, 97, 32, 124, 32, 98, 41, 32, 99, 59, 59, 32, 100, 41, 32, 101, 115, 97, 99], [40, 32, 97, 59, 32, 98, 32, 41], [123, 32, 97, 59, 32, 125], [32, 38, 38, 32], [32, 124, 32], [33, 32], [102, 40, 41, 32, 123, 32, 97, 59, 32, 125], [120, 61, 36, 121, 32, 97, 32, 62, 32, 111], [32, 62, 32, 111], [105, 102, 32, 97, 59, 32, 116, 104, 101, 110, 32, 98, 59, 32, 101, 108, 105, 102, 32, 99, 59, 32, 116, 104, 101, 110, 32, 100, 59, 32, 101, 108, 115, 101, 32, 101, 59, 32, 102, 105], [117, 110, 116, 105, 108, 32, 97, 59, 32, 100, 111, 32, 98, 59, 32, 100, 111, 110, 101, 32, 62, 62, 32, 111], [102, 111, 114, 32, 121, 10, 100, 111, 32, 97, 59, 32, 100, 111, 110, 101], [32, 124, 124, 32], [101, 99, 104, 111, 32, 39, 98, 32, 99, 39, 32, 36, 123, 120, 58, 45, 100, 125], [62, 32, 111, 32, 105, 102]]
theorem Phrases_spec : Calls Tryd.prog fn_law09_Phrases #[] w (fun e w' => ∃ q, e = .returned (.slice q ph09.length 20) ∧ StrsAt w' q ph09.length ph09 ∧ Still w w') := by
  refine law09_Phrases_calls _ _ ?_
  exact allocK fun w1 r1 s1 z1 => ⟨_, rfl, StrsAt.row (l := ph09) r1, s1⟩

/-! ### awake -/
def pN : Nd := .mk 1 true [] [] [] [] [] [smp [97], smp [98]]
def aN : Nd := .mk 2 false [] [] [] [] [[38, 38]] [pN, smp [99]]
def awN : Nd := .mk 3 false [] [] [] [] [] [aN]
theorem parse_aw1 : parseR [33, 32, 97, 32, 124, 32, 98, 32, 38, 38, 32, 99] = (awN, 0) := by kernel_rfl
theorem parse_aw2 : parseR [97, 61, 49, 32, 98, 32, 124, 32, 33, 32, 99] = (nd0, 100) := by kernel_rfl
theorem awake_end {w0 : World} {F1 FP FC : Nat → Prop} {g1 gt gb gk ge : Nat} {c1 cp cc : List Value} {r r1 : Int}
    (h1 : Row w g1 32 ⟨c1⟩) (n1 : NdE w F1 awN c1) (ht : Row w gt 32 ⟨zcell⟩) (hb : Row w gb 9 ⟨[.string (S [38, 38])]⟩) (hk : Row w gk 32 ⟨cp ++ cc⟩) (nP : NdE w FP pN cp) (nC : NdE w FC (smp [99]) cc)
    (he : Row w ge 32 ⟨[.int .i64 2, .bool false, .string (S []), .slice none 0 0, .slice none 0 0, .slice none 0 0, .slice (some ⟨gb, 0, none⟩) 1 1, .slice (some ⟨gk, 0, none⟩) 2 2]⟩)
    (ne : g1 ≠ gt ∧ gb ≠ gt ∧ gk ≠ gt ∧ ge ≠ gt) (hF : ¬ F1 gt ∧ ¬ FP gt ∧ ¬ FC gt) (hs : Still w0 w) (hgt : w0.heap.size ≤ gt) (hr : r = 0) (hr1 : r1 = 100) {R : Ending → World → Prop} (hR : ∀ w', Still w0 w' → R (.returned (.bool true)) w') :
    stCells (Addr.mk gt 0 none) (fun (w17 : World) => bsel (decide (r = (0 : Int))) (∃ vKind1 : Int, ∃ vNot1 : Bool, ∃ vName1 : List UInt8, ∃ (vWords1 : Option Addr) (vWordsL1 vWordsC1 : Nat), ∃ (vAssigns1 : Option Addr) (vAssignsL1 vAssignsC1 : Nat), ∃ (vRedirs1 : Option Addr) (vRedirsL1 vRedirsC1 : Nat), ∃ (vOps1 : Option Addr) (vOpsL1 vOpsC1 : Nat), ∃ (vKids1 : Option Addr) (vKidsL1 vKidsC1 : Nat), w17.cell? (Addr.mk g1 0 none) = some (.int .i64 vKind1) ∧ w17.cell? (Addr.mk g1 1 none) = some (.bool vNot1) ∧ w17.cell? (Addr.mk g1 2 none) = some (.string (S vName1)) ∧ w17.cell? (Addr.mk g1 3 none) = some (.slice vWords1 vWordsL1 vWordsC1) ∧ w17.cell? (Addr.mk g1 4 none) = some (.slice vAssigns1 vAssignsL1 vAssignsC1) ∧ w17.cell? (Addr.mk g1 5 none) = some (.slice vRedirs1 vRedirsL1 vRedirsC1) ∧ w17.cell? (Addr.mk g1 6 none) = some (.slice vOps1 vOpsL1 vOpsC1) ∧ w17.cell? (Addr.mk g1 7 none) = some (.slice vKids1 vKidsL1 vKidsC1) ∧ ∃ vKind2 : Int, ∃ vNot2 : Bool, ∃ vName2 : List UInt8, ∃ (vWords2 : Option Addr) (vWordsL2 vWordsC2 : Nat), ∃ (vAssigns2 : Option Addr) (vAssignsL2 vAssignsC2 : Nat), ∃ (vRedirs2 : Option Addr) (vRedirsL2 vRedirsC2 : Nat), ∃ (vOps2 : Option Addr) (vOpsL2 vOpsC2 : Nat), ∃ (vKids2 : Option Addr) (vKidsL2 vKidsC2 : Nat), w17.cell? (Addr.mk gt 0 none) = some (.int .i64 vKind2) ∧ w17.cell? (Addr.mk gt 1 none) = some (.bool vNot2) ∧ w17.cell? (Addr.mk gt 2 none) = some (.string (S vName2)) ∧ w17.cell? (Addr.mk gt 3 none) = some (.slice vWords2 vWordsL2 vWordsC2) ∧ w17.cell? (Addr.mk gt 4 none) = some (.slice vAssigns2 vAssignsL2 vAssignsC2) ∧ w17.cell? (Addr.mk gt 5 none) = some (.slice vRedirs2 vRedirsL2 vRedirsC2) ∧ w17.cell? (Addr.mk gt 6 none) = some (.slice vOps2 vOpsL2 vOpsC2) ∧ w17.cell? (Addr.mk gt 7 none) = some (.slice vKids2 vKidsL2 vKidsC2) ∧ Calls Tryd.prog fn_ref09_Same #[(.agg #[(.int .i64 vKind1), (.bool vNot1), (.string (S vName1)), (.slice vWords1 vWordsL1 vWordsC1), (.slice vAssigns1 vAssignsL1 vAssignsC1), (.slice vRedirs1 vRedirsL1 vRedirsC1), (.slice vOps1 vOpsL1 vOpsC1), (.slice vKids1 vKidsL1 vKidsC1)]), (.agg #[(.int .i64 vKind2), (.bool vNot2), (.string (S vName2)), (.slice vWords2 vWordsL2 vWordsC2), (.slice vAssigns2 vAssignsL2 vAssignsC2), (.slice vRedirs2 vRedirsL2 vRedirsC2), (.slice vOps2 vOpsL2 vOpsC2), (.slice vKids2 vKidsL2 vKidsC2)])] w17 (fun ed5 w18 => (∃ r2 : Bool, ed5 = .returned (.bool r2) ∧ bsel r2 (R (.returned (.bool (decide (r1 = (100 : Int))))) w18) (R (.returned (.bool false)) w18)) ∨ (∃ ch5, ed5 = .panicked ch5 ∧ R (.panicked ch5) w18))) (R (.returned (.bool false)) w17)) 0 [(.int .i64 (3 : Int)), (.bool false), (.string (S ([] : List UInt8))), (.slice none 0 0), (.slice none 0 0), (.slice none 0 0), (.slice none 0 0), (.slice (some (Addr.mk ge 0 none)) 1 1)] w := by
  subst hr hr1
  obtain ⟨e1, e2, e3, e4⟩ := ne
  obtain ⟨f1, f2, f3⟩ := hF
  obtain ⟨pw, cw, pa, ca, pr, cr, po, co, pk, ck, rfl, _⟩ := n1.outs
  refine stK ht (by simp) (by simp [Value.oneCell']) fun w17 r17 m17 z17 => bsel_of (fun _ => ?_) (fun h => by cases h)
  have h1 := h1.mod m17 e1
  have hb := hb.mod m17 e2
  have hk := hk.mod m17 e3
  have he := he.mod m17 e4
  have n1 := n1.mod m17 fun k hk (e : k = gt) => f1 (e ▸ hk)
  have nP := (nP.mod m17 fun k hk (e : k = gt) => f2 (e ▸ hk)).mono (G := fun _ => True) fun _ _ => trivial
  have nC := (nC.mod m17 fun k hk (e : k = gt) => f3 (e ▸ hk)).mono (G := fun _ => True) fun _ _ => trivial
  have hPC := Enc.Cs.two (e := ndE) (w := w17) (F := fun _ => True) (x := pN) (y := smp [99]) nP nC
  have nA : NdE w17 (fun _ => True) aN _ := NdE.of (x := aN) (Enc.At.nil _ _ _ none 0) (Enc.At.nil _ _ _ none 0) (Enc.At.nil _ _ _ none 0) (Enc.At.row (l := [[38, 38]]) hb (Enc.Cs.single rfl) trivial (Nat.le_refl 1)) (Enc.At.row (l := [pN, smp [99]]) (c := 2) hk hPC trivial (Nat.le_refl 2))
  have nW : NdE w17 (fun _ => True) awN _ := NdE.of (x := awN) (Enc.At.nil _ _ _ none 0) (Enc.At.nil _ _ _ none 0) (Enc.At.nil _ _ _ none 0) (Enc.At.nil _ _ _ none 0) (Enc.At.row (l := [aN]) (c := 1) he (Enc.Cs.single nA) trivial (Nat.le_refl 1))
  refine ⟨_, _, _, _, _, _, _, _, _, _, _, _, _, _, _, _, _, _, h1.lget rfl, h1.lget rfl, h1.lget rfl, h1.lget rfl, h1.lget rfl, h1.lget rfl, h1.lget rfl, h1.lget rfl, ?_⟩
  refine ⟨_, _, _, _, _, _, _, _, _, _, _, _, _, _, _, _, _, _, r17.lget rfl, r17.lget rfl, r17.lget rfl, r17.lget rfl, r17.lget rfl, r17.lget rfl, r17.lget rfl, r17.lget rfl, ?_⟩
  refine (sameN_true n1 nW (by decide)).mono ?_
  rintro _ w18 ⟨rfl, s18⟩
  exact .inl ⟨_, rfl, bsel_of (fun _ => hR _ (Mod.trans (Mod.trans hs m17 (fun _ h => h) (fun i hi e => by omega)) s18 (fun _ h => h) (fun _ _ h => h))) (fun h => by cases h)⟩
set_option maxHeartbeats 4000000 in
theorem awake_spec : Calls Tryd.prog fn_law09_awake #[] w (fun e w' => e = .returned (.bool true) ∧ Still w w') := by
  refine law09_awake_calls _ _ ?_
  have h1 := parse_got (w := w) [33, 32, 97, 32, 124, 32, 98, 32, 38, 38, 32, 99]
  rw [parse_aw1] at h1
  refine h1.mono ?_
  rintro _ w1 ⟨pw1, cw1, pa1, ca1, pr1, cr1, po1, co1, pk1, ck1, rfl, n1, s1⟩
  refine .inl ⟨_, _, _, _, _, _, _, _, _, _, _, _, _, _, _, _, _, _, _, rfl, boxK rfl (by simp [Value.oneCell']) fun w3 r3 s3 z3 => ?_⟩
  have h2 := parse_got (w := w3) [97, 61, 49, 32, 98, 32, 124, 32, 33, 32, 99]
  rw [parse_aw2] at h2
  refine h2.mono ?_
  rintro _ w4 ⟨pw4, cw4, pa4, ca4, pr4, cr4, po4, co4, pk4, ck4, rfl, n4, s4⟩
  refine .inl ⟨_, _, _, _, _, _, _, _, _, _, _, _, _, _, _, _, _, _, _, rfl, boxK rfl (by simp [Value.oneCell']) fun w6 r6 s6 z6 => (lawsmp_spec _).mono ?_⟩
  rintro _ w7 ⟨pw7, cw7, pa7, ca7, pr7, cr7, po7, co7, pk7, ck7, rfl, n7, s7⟩
  refine .inl ⟨_, _, _, _, _, _, _, _, _, _, _, _, _, _, _, _, _, _, rfl, (lawsmp_spec _).mono ?_⟩
  rintro _ w8 ⟨pw8, cw8, pa8, ca8, pr8, cr8, po8, co8, pk8, ck8, rfl, n8, s8⟩
  refine .inl ⟨_, _, _, _, _, _, _, _, _, _, _, _, _, _, _, _, _, _, rfl, allocK fun w9 r9 s9 z9 => boxK rfl (by simp [Value.oneCell']) fun w11 r11 s11 z11 => ?_⟩
  have t11 : Still w w11 := ((((((s1.trans s3).trans s4).trans s6).trans s7).trans s8).trans s9).trans s11
  have tD : Still w11 w11.drew := drew_still w11
  have zD : w11.drew.heap.size = w11.heap.size := rfl
  have zz1 := s1.size
  have zz4 := s4.size
  have zz7 := s7.size
  have zz8 := s8.size
  have hR : ∀ wx w', Still w11 wx → Still wx w' → (fun e w' => e = .returned (.bool true) ∧ Still w w') (Ending.returned (.bool true)) w' := fun wx w' h h' => ⟨rfl, (t11.trans h).trans h'⟩
  have nX : NdE w11 (fun k => k < w11.heap.size) (smp [97]) _ := ((n7.still s8).still s9).still s11 |>.mono fun k hk => by have h2 : k < w7.heap.size := hk.2; omega
  have nY : NdE w11 (fun k => k < w11.heap.size) (smp [98]) _ := (n8.still s9).still s11 |>.mono fun k hk => by have h2 : k < w8.heap.size := hk.2; omega
  have hXY := Enc.Cs.two (e := ndE) (w := w11) (F := fun k => k < w11.heap.size) (x := smp [97]) (y := smp [98]) nX nY
  have nP : NdE w11 (fun k => k < w11.heap.size) pN _ := NdE.of (x := pN) (Enc.At.nil _ _ _ none 0) (Enc.At.nil _ _ _ none 0) (Enc.At.nil _ _ _ none 0) (Enc.At.nil _ _ _ none 0) (Enc.At.row (l := [smp [97], smp [98]]) (c := 2) (r9.still s11) hXY (by show w8.heap.size < w11.heap.size; omega) (Nat.le_refl 2))
  have b1 := ((((((r3.still s4).still s6).still s7).still s8).still s9).still s11)
  have n1 := ((((((n1.still s3).still s4).still s6).still s7).still s8).still s9).still s11
  refine ⟨fun wq => Still w11 wq, tD, _, _, _, _, _, _, _, _, _, _, _, _, _, _, _, _, _, _, fun wq hq => (r11.still hq).lget rfl, fun wq hq => (r11.still hq).lget rfl, fun wq hq => (r11.still hq).lget rfl, fun wq hq => (r11.still hq).lget rfl, fun wq hq => (r11.still hq).lget rfl, fun wq hq => (r11.still hq).lget rfl, fun wq hq => (r11.still hq).lget rfl, fun wq hq => (r11.still hq).lget rfl, ?_⟩
  clear r3 r6 s3 s4 s6 s7 s8 s9 s11 h1 h2 n4 n7 n8 r9
  refine ⟨?_, ?_, ?_⟩
  · refine allocK fun w101 r101 s101 z101 => ?_
    have t101 := tD.trans s101
    refine ⟨t101, ?_⟩
    refine ⟨?_, ?_⟩
    · refine (lawsmp_spec [99]).mono ?_
      rintro _ w102 ⟨pw102, cw102, pa102, ca102, pr102, cr102, po102, co102, pk102, ck102, rfl, n102, s102⟩
      have z102 := s102.size
      have t102 := t101.trans s102
      refine .inl ⟨_, _, _, _, _, _, _, _, _, _, _, _, _, _, _, _, _, _, rfl, t102, ?_⟩
      refine ⟨?_, ?_⟩
      · refine allocK fun w103 r103 s103 z103 => ?_
        have t103 := t102.trans s103
        refine ⟨?_, ?_⟩
        · refine allocK fun w104 r104 s104 z104 => ?_
          have t104 := t103.trans s104
          refine allocK fun w105 r105 s105 z105 => ?_
          have t105 := t104.trans s105
          refine ⟨t105, ?_⟩
          exact awake_end (R := fun e v => e = .returned (.bool true) ∧ Still w v) (w0 := w11) (FP := fun k => k < w11.heap.size) (FC := fun k => w101.heap.size ≤ k ∧ k < w102.heap.size) (b1.still (((((tD.trans s101).trans s102).trans s103).trans s104).trans s105)) (n1.still (((((tD.trans s101).trans s102).trans s103).trans s104).trans s105)) r105 (r101.still (((s102.trans s103).trans s104).trans s105)) (r103.still (s104.trans s105)) (nP.still (((((tD.trans s101).trans s102).trans s103).trans s104).trans s105)) (n102.still ((s103.trans s104).trans s105)) (r104.still s105) ⟨by omega, by omega, by omega, by omega⟩ ⟨fun h => by have := h.2; omega, by omega, by omega⟩ t105 (by omega) rfl rfl fun w' h => hR _ w' (Still.refl _) h
        · refine allocK fun w106 r106 s106 z106 => ?_
          have t106 := t103.trans s106
          refine ⟨t106, ?_⟩
          refine allocK fun w107 r107 s107 z107 => ?_
          have t107 := t106.trans s107
          exact awake_end (R := fun e v => e = .returned (.bool true) ∧ Still w v) (w0 := w11) (FP := fun k => k < w11.heap.size) (FC := fun k => w101.heap.size ≤ k ∧ k < w102.heap.size) (b1.still (((((tD.trans s101).trans s102).trans s103).trans s106).trans s107)) (n1.still (((((tD.trans s101).trans s102).trans s103).trans s106).trans s107)) (r106.still s107) (r101.still (((s102.trans s103).trans s106).trans s107)) (r103.still (s106.trans s107)) (nP.still (((((tD.trans s101).trans s102).trans s103).trans s106).trans s107)) (n102.still ((s103.trans s106).trans s107)) r107 ⟨by omega, by omega, by omega, by omega⟩ ⟨fun h => by have := h.2; omega, by omega, by omega⟩ t107 (by omega) rfl rfl fun w' h => hR _ w' (Still.refl _) h
      · refine allocK fun w108 r108 s108 z108 => ?_
        have t108 := t102.trans s108
        refine ⟨t108, ?_⟩
        refine allocK fun w109 r109 s109 z109 => ?_
        have t109 := t108.trans s109
        refine allocK fun w110 r110 s110 z110 => ?_
        have t110 := t109.trans s110
        exact awake_end (R := fun e v => e = .returned (.bool true) ∧ Still w v) (w0 := w11) (FP := fun k => k < w11.heap.size) (FC := fun k => w101.heap.size ≤ k ∧ k < w102.heap.size) (b1.still (((((tD.trans s101).trans s102).trans s108).trans s109).trans s110)) (n1.still (((((tD.trans s101).trans s102).trans s108).trans s109).trans s110)) (r108.still (s109.trans s110)) (r101.still (((s102.trans s108).trans s109).trans s110)) (r109.still s110) (nP.still (((((tD.trans s101).trans s102).trans s108).trans s109).trans s110)) (n102.still ((s108.trans s109).trans s110)) r110 ⟨by omega, by omega, by omega, by omega⟩ ⟨fun h => by have := h.2; omega, by omega, by omega⟩ t110 (by omega) rfl rfl fun w' h => hR _ w' (Still.refl _) h
    · refine allocK fun w111 r111 s111 z111 => ?_
      have t111 := t101.trans s111
      refine ⟨t111, ?_⟩
      refine (lawsmp_spec [99]).mono ?_
      rintro _ w112 ⟨pw112, cw112, pa112, ca112, pr112, cr112, po112, co112, pk112, ck112, rfl, n112, s112⟩
      have z112 := s112.size
      have t112 := t111.trans s112
      refine .inl ⟨_, _, _, _, _, _, _, _, _, _, _, _, _, _, _, _, _, _, rfl, t112, ?_⟩
      refine allocK fun w113 r113 s113 z113 => ?_
      have t113 := t112.trans s113
      refine allocK fun w114 r114 s114 z114 => ?_
      have t114 := t113.trans s114
      exact awake_end (R := fun e v => e = .returned (.bool true) ∧ Still w v) (w0 := w11) (FP := fun k => k < w11.heap.size) (FC := fun k => w111.heap.size ≤ k ∧ k < w112.heap.size) (b1.still (((((tD.trans s101).trans s111).trans s112).trans s113).trans s114)) (n1.still (((((tD.trans s101).trans s111).trans s112).trans s113).trans s114)) (r111.still ((s112.trans s113).trans s114)) (r101.still (((s111.trans s112).trans s113).trans s114)) (r113.still s114) (nP.still (((((tD.trans s101).trans s111).trans s112).trans s113).trans s114)) (n112.still (s113.trans s114)) r114 ⟨by omega, by omega, by omega, by omega⟩ ⟨fun h => by have := h.2; omega, by omega, by omega⟩ t114 (by omega) rfl rfl fun w' h => hR _ w' (Still.refl _) h
  · refine (lawsmp_spec [99]).mono ?_
    rintro _ w115 ⟨pw115, cw115, pa115, ca115, pr115, cr115, po115, co115, pk115, ck115, rfl, n115, s115⟩
    have z115 := s115.size
    have t115 := tD.trans s115
    refine .inl ⟨_, _, _, _, _, _, _, _, _, _, _, _, _, _, _, _, _, _, rfl, t115, ?_⟩
    refine ⟨?_, ?_, ?_⟩
    · refine allocK fun w116 r116 s116 z116 => ?_
      have t116 := t115.trans s116
      refine ⟨t116, ?_⟩
      refine ⟨?_, ?_⟩
      · refine allocK fun w117 r117 s117 z117 => ?_
        have t117 := t116.trans s117
        refine ⟨?_, ?_⟩
        · refine allocK fun w118 r118 s118 z118 => ?_
          have t118 := t117.trans s118
          refine allocK fun w119 r119 s119 z119 => ?_
          have t119 := t118.trans s119
          refine ⟨t119, ?_⟩
          exact awake_end (R := fun e v => e = .returned (.bool true) ∧ Still w v) (w0 := w11) (FP := fun k => k < w11.heap.size) (FC := fun k => w11.drew.heap.size ≤ k ∧ k < w115.heap.size) (b1.still (((((tD.trans s115).trans s116).trans s117).trans s118).trans s119)) (n1.still (((((tD.trans s115).trans s116).trans s117).trans s118).trans s119)) r119 (r116.still ((s117.trans s118).trans s119)) (r117.still (s118.trans s119)) (nP.still (((((tD.trans s115).trans s116).trans s117).trans s118).trans s119)) (n115.still (((s116.trans s117).trans s118).trans s119)) (r118.still s119) ⟨by omega, by omega, by omega, by omega⟩ ⟨fun h => by have := h.2; omega, by omega, by omega⟩ t119 (by omega) rfl rfl fun w' h => hR _ w' (Still.refl _) h
        · refine allocK fun w120 r120 s120 z120 => ?_
          have t120 := t117.trans s120
          refine ⟨t120, ?_⟩
          refine allocK fun w121 r121 s121 z121 => ?_
          have t121 := t120.trans s121
          exact awake_end (R := fun e v => e = .returned (.bool true) ∧ Still w v) (w0 := w11) (FP := fun k => k < w11.heap.size) (FC := fun k => w11.drew.heap.size ≤ k ∧ k < w115.heap.size) (b1.still (((((tD.trans s115).trans s116).trans s117).trans s120).trans s121)) (n1.still (((((tD.trans s115).trans s116).trans s117).trans s120).trans s121)) (r120.still s121) (r116.still ((s117.trans s120).trans s121)) (r117.still (s120.trans s121)) (nP.still (((((tD.trans s115).trans s116).trans s117).trans s120).trans s121)) (n115.still (((s116.trans s117).trans s120).trans s121)) r121 ⟨by omega, by omega, by omega, by omega⟩ ⟨fun h => by have := h.2; omega, by omega, by omega⟩ t121 (by omega) rfl rfl fun w' h => hR _ w' (Still.refl _) h
      · refine allocK fun w122 r122 s122 z122 => ?_
        have t122 := t116.trans s122
        refine ⟨t122, ?_⟩
        refine allocK fun w123 r123 s123 z123 => ?_
        have t123 := t122.trans s123
        refine allocK fun w124 r124 s124 z124 => ?_
        have t124 := t123.trans s124
        exact awake_end (R := fun e v => e = .returned (.bool true) ∧ Still w v) (w0 := w11) (FP := fun k => k < w11.heap.size) (FC := fun k => w11.drew.heap.size ≤ k ∧ k < w115.heap.size) (b1.still (((((tD.trans s115).trans s116).trans s122).trans s123).trans s124)) (n1.still (((((tD.trans s115).trans s116).trans s122).trans s123).trans s124)) (r122.still (s123.trans s124)) (r116.still ((s122.trans s123).trans s124)) (r123.still s124) (nP.still (((((tD.trans s115).trans s116).trans s122).trans s123).trans s124)) (n115.still (((s116.trans s122).trans s123).trans s124)) r124 ⟨by omega, by omega, by omega, by omega⟩ ⟨fun h => by have := h.2; omega, by omega, by omega⟩ t124 (by omega) rfl rfl fun w' h => hR _ w' (Still.refl _) h
    · refine allocK fun w125 r125 s125 z125 => ?_
      have t125 := t115.trans s125
      refine ⟨?_, ?_⟩
      · refine allocK fun w126 r126 s126 z126 => ?_
        have t126 := t125.trans s126
        refine ⟨t126, ?_⟩
        refine ⟨?_, ?_⟩
        · refine allocK fun w127 r127 s127 z127 => ?_
          have t127 := t126.trans s127
          refine allocK fun w128 r128 s128 z128 => ?_
          have t128 := t127.trans s128
          refine ⟨t128, ?_⟩
          exact awake_end (R := fun e v => e = .returned (.bool true) ∧ Still w v) (w0 := w11) (FP := fun k => k < w11.heap.size) (FC := fun k => w11.drew.heap.size ≤ k ∧ k < w115.heap.size) (b1.still (((((tD.trans s115).trans s125).trans s126).trans s127).trans s128)) (n1.still (((((tD.trans s115).trans s125).trans s126).trans s127).trans s128)) r128 (r126.still (s127.trans s128)) (r125.still ((s126.trans s127).trans s128)) (nP.still (((((tD.trans s115).trans s125).trans s126).trans s127).trans s128)) (n115.still (((s125.trans s126).trans s127).trans s128)) (r127.still s128) ⟨by omega, by omega, by omega, by omega⟩ ⟨fun h => by have := h.2; omega, by omega, by omega⟩ t128 (by omega) rfl rfl fun w' h => hR _ w' (Still.refl _) h
        · refine allocK fun w129 r129 s129 z129 => ?_
          have t129 := t126.trans s129
          refine ⟨t129, ?_⟩
          refine allocK fun w130 r130 s130 z130 => ?_
          have t130 := t129.trans s130
          exact awake_end (R := fun e v => e = .returned (.bool true) ∧ Still w v) (w0 := w11) (FP := fun k => k < w11.heap.size) (FC := fun k => w11.drew.heap.size ≤ k ∧ k < w115.heap.size) (b1.still (((((tD.trans s115).trans s125).trans s126).trans s129).trans s130)) (n1.still (((((tD.trans s115).trans s125).trans s126).trans s129).trans s130)) (r129.still s130) (r126.still (s129.trans s130)) (r125.still ((s126.trans s129).trans s130)) (nP.still (((((tD.trans s115).trans s125).trans s126).trans s129).trans s130)) (n115.still (((s125.trans s126).trans s129).trans s130)) r130 ⟨by omega, by omega, by omega, by omega⟩ ⟨fun h => by have := h.2; omega, by omega, by omega⟩ t130 (by omega) rfl rfl fun w' h => hR _ w' (Still.refl _) h
      · refine allocK fun w131 r131 s131 z131 => ?_
        have t131 := t125.trans s131
        refine ⟨t131, ?_⟩
        refine allocK fun w132 r132 s132 z132 => ?_
        have t132 := t131.trans s132
        refine ⟨t132, ?_⟩
        refine allocK fun w133 r133 s133 z133 => ?_
        have t133 := t132.trans s133
        exact awake_end (R := fun e v => e = .returned (.bool true) ∧ Still w v) (w0 := w11) (FP := fun k => k < w11.heap.size) (FC := fun k => w11.drew.heap.size ≤ k ∧ k < w115.heap.size) (b1.still (((((tD.trans s115).trans s125).trans s131).trans s132).trans s133)) (n1.still (((((tD.trans s115).trans s125).trans s131).trans s132).trans s133)) (r131.still (s132.trans s133)) (r132.still s133) (r125.still ((s131.trans s132).trans s133)) (nP.still (((((tD.trans s115).trans s125).trans s131).trans s132).trans s133)) (n115.still (((s125.trans s131).trans s132).trans s133)) r133 ⟨by omega, by omega, by omega, by omega⟩ ⟨fun h => by have := h.2; omega, by omega, by omega⟩ t133 (by omega) rfl rfl fun w' h => hR _ w' (Still.refl _) h
    · refine allocK fun w134 r134 s134 z134 => ?_
      have t134 := t115.trans s134
      refine ⟨t134, ?_⟩
      refine ⟨?_, ?_⟩
      · refine allocK fun w135 r135 s135 z135 => ?_
        have t135 := t134.trans s135
        refine ⟨t135, ?_⟩
        refine allocK fun w136 r136 s136 z136 => ?_
        have t136 := t135.trans s136
        refine allocK fun w137 r137 s137 z137 => ?_
        have t137 := t136.trans s137
        exact awake_end (R := fun e v => e = .returned (.bool true) ∧ Still w v) (w0 := w11) (FP := fun k => k < w11.heap.size) (FC := fun k => w11.drew.heap.size ≤ k ∧ k < w115.heap.size) (b1.still (((((tD.trans s115).trans s134).trans s135).trans s136).trans s137)) (n1.still (((((tD.trans s115).trans s134).trans s135).trans s136).trans s137)) (r134.still ((s135.trans s136).trans s137)) (r135.still (s136.trans s137)) (r136.still s137) (nP.still (((((tD.trans s115).trans s134).trans s135).trans s136).trans s137)) (n115.still (((s134.trans s135).trans s136).trans s137)) r137 ⟨by omega, by omega, by omega, by omega⟩ ⟨fun h => by have := h.2; omega, by omega, by omega⟩ t137 (by omega) rfl rfl fun w' h => hR _ w' (Still.refl _) h
      · refine allocK fun w138 r138 s138 z138 => ?_
        have t138 := t134.trans s138
        refine allocK fun w139 r139 s139 z139 => ?_
        have t139 := t138.trans s139
        refine ⟨t139, ?_⟩
        refine allocK fun w140 r140 s140 z140 => ?_
        have t140 := t139.trans s140
        exact awake_end (R := fun e v => e = .returned (.bool true) ∧ Still w v) (w0 := w11) (FP := fun k => k < w11.heap.size) (FC := fun k => w11.drew.heap.size ≤ k ∧ k < w115.heap.size) (b1.still (((((tD.trans s115).trans s134).trans s138).trans s139).trans s140)) (n1.still (((((tD.trans s115).trans s134).trans s138).trans s139).trans s140)) (r134.still ((s138.trans s139).trans s140)) (r139.still s140) (r138.still (s139.trans s140)) (nP.still (((((tD.trans s115).trans s134).trans s138).trans s139).trans s140)) (n115.still (((s134.trans s138).trans s139).trans s140)) r140 ⟨by omega, by omega, by omega, by omega⟩ ⟨fun h => by have := h.2; omega, by omega, by omega⟩ t140 (by omega) rfl rfl fun w' h => hR _ w' (Still.refl _) h
  · refine allocK fun w141 r141 s141 z141 => ?_
    have t141 := tD.trans s141
    refine ⟨t141, ?_⟩
    refine ⟨?_, ?_⟩
    · refine allocK fun w142 r142 s142 z142 => ?_
      have t142 := t141.trans s142
      refine ⟨t142, ?_⟩
      refine (lawsmp_spec [99]).mono ?_
      rintro _ w143 ⟨pw143, cw143, pa143, ca143, pr143, cr143, po143, co143, pk143, ck143, rfl, n143, s143⟩
      have z143 := s143.size
      have t143 := t142.trans s143
      refine .inl ⟨_, _, _, _, _, _, _, _, _, _, _, _, _, _, _, _, _, _, rfl, t143, ?_⟩
      refine allocK fun w144 r144 s144 z144 => ?_
      have t144 := t143.trans s144
      refine allocK fun w145 r145 s145 z145 => ?_
      have t145 := t144.trans s145
      exact awake_end (R := fun e v => e = .returned (.bool true) ∧ Still w v) (w0 := w11) (FP := fun k => k < w11.heap.size) (FC := fun k => w142.heap.size ≤ k ∧ k < w143.heap.size) (b1.still (((((tD.trans s141).trans s142).trans s143).trans s144).trans s145)) (n1.still (((((tD.trans s141).trans s142).trans s143).trans s144).trans s145)) (r141.still (((s142.trans s143).trans s144).trans s145)) (r142.still ((s143.trans s144).trans s145)) (r144.still s145) (nP.still (((((tD.trans s141).trans s142).trans s143).trans s144).trans s145)) (n143.still (s144.trans s145)) r145 ⟨by omega, by omega, by omega, by omega⟩ ⟨fun h => by have := h.2; omega, by omega, by omega⟩ t145 (by omega) rfl rfl fun w' h => hR _ w' (Still.refl _) h
    · refine (lawsmp_spec [99]).mono ?_
      rintro _ w146 ⟨pw146, cw146, pa146, ca146, pr146, cr146, po146, co146, pk146, ck146, rfl, n146, s146⟩
      have z146 := s146.size
      have t146 := t141.trans s146
      refine .inl ⟨_, _, _, _, _, _, _, _, _, _, _, _, _, _, _, _, _, _, rfl, t146, ?_⟩
      refine ⟨?_, ?_⟩
      · refine allocK fun w147 r147 s147 z147 => ?_
        have t147 := t146.trans s147
        refine ⟨t147, ?_⟩
        refine allocK fun w148 r148 s148 z148 => ?_
        have t148 := t147.trans s148
        refine allocK fun w149 r149 s149 z149 => ?_
        have t149 := t148.trans s149
        exact awake_end (R := fun e v => e = .returned (.bool true) ∧ Still w v) (w0 := w11) (FP := fun k => k < w11.heap.size) (FC := fun k => w141.heap.size ≤ k ∧ k < w146.heap.size) (b1.still (((((tD.trans s141).trans s146).trans s147).trans s148).trans s149)) (n1.still (((((tD.trans s141).trans s146).trans s147).trans s148).trans s149)) (r141.still (((s146.trans s147).trans s148).trans s149)) (r147.still (s148.trans s149)) (r148.still s149) (nP.still (((((tD.trans s141).trans s146).trans s147).trans s148).trans s149)) (n146.still ((s147.trans s148).trans s149)) r149 ⟨by omega, by omega, by omega, by omega⟩ ⟨fun h => by have := h.2; omega, by omega, by omega⟩ t149 (by omega) rfl rfl fun w' h => hR _ w' (Still.refl _) h
      · refine allocK fun w150 r150 s150 z150 => ?_
        have t150 := t146.trans s150
        refine allocK fun w151 r151 s151 z151 => ?_
        have t151 := t150.trans s151
        refine ⟨t151, ?_⟩
        refine allocK fun w152 r152 s152 z152 => ?_
        have t152 := t151.trans s152
        exact awake_end (R := fun e v => e = .returned (.bool true) ∧ Still w v) (w0 := w11) (FP := fun k => k < w11.heap.size) (FC := fun k => w141.heap.size ≤ k ∧ k < w146.heap.size) (b1.still (((((tD.trans s141).trans s146).trans s150).trans s151).trans s152)) (n1.still (((((tD.trans s141).trans s146).trans s150).trans s151).trans s152)) (r141.still (((s146.trans s150).trans s151).trans s152)) (r151.still s152) (r150.still (s151.trans s152)) (nP.still (((((tD.trans s141).trans s146).trans s150).trans s151).trans s152)) (n146.still ((s150.trans s151).trans s152)) r152 ⟨by omega, by omega, by omega, by omega⟩ ⟨fun h => by have := h.2; omega, by omega, by omega⟩ t152 (by omega) rfl rfl fun w' h => hR _ w' (Still.refl _) h
end Go.Proofs.YtcoeiiihmpnagaaDoor
