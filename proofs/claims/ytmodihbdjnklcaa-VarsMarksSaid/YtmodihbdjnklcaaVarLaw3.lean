/- Variables: the three laws, at the walk's level. Conditions: as each theorem names them. -/
import Derived.Test.YtmodihbdjnklcaaVarLaw2
namespace Go.Proofs.Ytmodihbdjnklcaa
open Go.RowKit Vc Go.Shelf
variable {w : World}

theorem getD_same {s : Txt} {l : List Vr} : (decide ((getD s l).name = (getD s l).name) && (decide ((getD s l).value = (getD s l).value) && (decide ((getD s l).exp = (getD s l).exp) && (decide ((getD s l).ro = (getD s l).ro) && true)))) = true := by simp

theorem VarsPlays_spec (acts : Option Addr) (L C : Nat) (ha : ActsAt w acts L 140737488355328) : Calls Try.prog fn_law12_VarsPlays #[.slice acts L C] w (fun e w' => e = .returned (.bool true) ∧ Still w w') := by
  refine law12_VarsPlays_calls _ _ _ _ _ ?_
  refine awake_spec.mono ?_
  rintro _ w1 ⟨rfl, hs1⟩
  refine .inl ⟨_, rfl, bsel_of (fun h => by cases h) (fun _ => ?_)⟩
  refine ⟨fun q n D i w2 => ∃ (k : Nat) (l : List Vr), i = (k : Int) ∧ k ≤ 20 ∧ n = l.length ∧ VarAt w2 q n D l ∧ GoodM 100 l ∧ l.length ≤ k ∧ Still w w2, fun _ _ _ i _ => 20 - i.toNat,
    ⟨0, [], rfl, by decide, rfl, VarAt.nil _, GoodM.nil _, by decide, hs1⟩, ?_⟩
  rintro q _ D _ _ w2 ⟨k, l, rfl, hk, rfl, hv, hg, hl, hst⟩
  have done : Calls Try.prog fn_vars_Environ #[.slice q l.length D] w2 (fun ed7 w9 => (∃ (r8 : Option Addr) (rL1 rC1 : Nat), ed7 = .returned (.slice r8 rL1 rC1) ∧ Calls Try.prog fn_ref12_Environ #[.slice q l.length D] w9 (fun ed8 w10 => (∃ (r9 : Option Addr) (rL2 rC2 : Nat), ed8 = .returned (.slice r9 rL2 rC2) ∧ Calls Try.prog fn_ref02_Same #[.slice r8 rL1 rC1, .slice r9 rL2 rC2] w10 (fun ed9 w11 => (∃ r10 : Bool, ed9 = .returned (.bool r10) ∧ (Ending.returned (.bool r10) = .returned (.bool true) ∧ Still w w11)) ∨ (∃ ch9, ed9 = .panicked ch9 ∧ (Ending.panicked ch9 = .returned (.bool true) ∧ Still w w11)))) ∨ (∃ ch8, ed8 = .panicked ch8 ∧ (Ending.panicked ch8 = .returned (.bool true) ∧ Still w w10)))) ∨ (∃ ch7, ed7 = .panicked ch7 ∧ (Ending.panicked ch7 = .returned (.bool true) ∧ Still w w9))) := by
    have hb : ∀ v ∈ l, v.name.length + v.value.length < 9223372036854775806 := fun v hv => by have := hg.2 v hv; omega
    have he := environ_few (l := l) l.length
    rw [List.take_length] at he
    refine (environ_spec hv (by omega) hb).mono ?_
    rintro _ w3 ⟨q3, D3, rfl, ho3, hs3⟩
    refine .inl ⟨_, _, _, rfl, (renviron_spec (hv.still hs3) (by omega) hb).mono ?_⟩
    rintro _ w4 ⟨q4, D4, rfl, ho4, hs4⟩
    refine .inl ⟨_, _, _, rfl, (same_spec (StrsAt.of (ho3.still hs4)) ho4 (by omega)).mono ?_⟩
    rintro _ w5 ⟨rfl, hs5⟩
    exact .inl ⟨_, rfl, by rw [decide_eq_true rfl], ((hst.trans hs3).trans hs4).trans hs5⟩
  refine bsel_of (fun hx => bsel_of (fun h20 => ?_) (fun _ => done)) (fun _ => done)
  clear done
  have hx : k < L := by have := of_decide_eq_true hx; omega
  have h20 : k < 20 := by have := of_decide_eq_true h20; omega
  have e1 : IntKind.i64.wrap ((k : Int) + 1) = ((k + 1 : Nat) : Int) := by rw [wrap_i64 (by omega) (by omega)]; omega
  rw [e1]
  simp only [Int.toNat_natCast]
  obtain ⟨a, rfl, c, hc⟩ := ha k hx
  have hc2 := hc.still hst
  refine ⟨by omega, by omega, _, hc2.c2, by omega, by omega, _, hc2.c3, ?_⟩
  have hsum : IntKind.i64.wrap ((c.raw.length : Int) + (c.value.length : Int)) = ((c.raw.length + c.value.length : Nat) : Int) := by
    have := hc.h2
    have := hc.h3
    rw [wrap_i64 (by omega) (by omega)]
    omega
  rw [hsum]
  refine bsel_of (fun _ => ⟨trivial, hst.toDrew⟩) (fun h100 => ?_)
  have h100 : c.raw.length + c.value.length ≤ 100 := by have := of_decide_eq_false h100; omega
  have hstd := hst.toDrew
  have hcd := hc.still hstd
  have hnm : c.name.length ≤ 100 := nameA_len (by omega) (by decide)
  obtain ⟨hg3, hl3⟩ := newL_good hg hnm (by omega : c.value.length ≤ 100)
  refine ⟨by omega, by omega, _, _, _, _, _, _, hcd.c0, hcd.c1, hcd.c2, hcd.c3, hcd.c4, hcd.c5, (does_spec (w := w2.drew) (hv.still (Still.refl _).toDrew) hg.1 (by omega) c hc.h0 hc.h1 (by omega)).mono ?_⟩
  rintro _ w3 ⟨q3, D3, rfl, hv3, hs3⟩
  generalize newL l c = l3 at *
  have hst3 := hstd.trans hs3
  have hc3 := hc.still hst3
  refine .inl ⟨_, _, _, _, rfl, bsel_of (fun h => by cases h) (fun _ => ?_)⟩
  refine ⟨by omega, by omega, _, _, _, _, _, _, hc3.c0, hc3.c1, hc3.c2, hc3.c3, hc3.c4, hc3.c5, (lname_spec _ c.nm hc.h1 _ _ _ _).mono ?_⟩
  rintro _ w4 ⟨rfl, hs4⟩
  refine .inl ⟨_, rfl, (get_spec (hv3.still hs4) hg3.1 (by omega) _).mono ?_⟩
  rintro _ w5 ⟨rfl, hs5⟩
  refine .inl ⟨_, _, _, _, _, rfl, boxK rfl (vcell_one (getD c.name l3)) fun w6 hr6 hs6 hz6 => ?_⟩
  have hst6 := ((hst3.trans hs4).trans hs5).trans hs6
  have hc6 := hc.still hst6
  refine ⟨by omega, by omega, _, _, _, _, _, _, hc6.c0, hc6.c1, hc6.c2, hc6.c3, hc6.c4, hc6.c5, (lname_spec _ c.nm hc.h1 _ _ _ _).mono ?_⟩
  rintro _ w7 ⟨rfl, hs7⟩
  have hv7 := (((hv3.still hs4).still hs5).still hs6).still hs7
  refine .inl ⟨_, rfl, (rget_spec hv7 (by omega) _).mono ?_⟩
  rintro _ w8 ⟨rfl, hs8⟩
  refine .inl ⟨_, _, _, _, _, rfl, boxK rfl (vcell_one (getD c.name l3)) fun w9 hr9 hs9 hz9 => ?_⟩
  have hr6' := ((hr6.still hs7).still hs8).still hs9
  refine ⟨_, _, _, _, hr6'.cellv rfl, hr6'.cellv rfl, hr6'.cellv rfl, hr6'.cellv rfl, _, _, _, _, hr9.cellv rfl, hr9.cellv rfl, hr9.cellv rfl, hr9.cellv rfl, bsel_of (fun h => ?_) (fun _ => bsel_of (fun h => ?_) (fun _ => ?_))⟩
  · rw [getD_same] at h
    cases h
  · simp at h
  have hv9 := (hv7.still hs8).still hs9
  refine (right_spec hv9 (by omega) (hg3.good (by decide))).mono ?_
  rintro _ w10 ⟨rfl, hs10⟩
  exact .inl ⟨_, rfl, bsel_of (fun h => by cases h) (fun _ => ⟨⟨k + 1, l3, rfl, h20, rfl, hv9.still hs10, hg3, by omega, (((hst6.trans hs7).trans hs8).trans hs9).trans hs10⟩, by omega⟩)⟩

theorem VarsMarks_spec (acts : Option Addr) (L C : Nat) (ha : ActsAt w acts L 140737488355328) (n : Int) (hn0 : 0 ≤ n) (hn1 : n < 256) (x y : Bool) (value : Txt) (hvl : value.length ≤ 140737488355328) :
    Calls Try.prog fn_law12_VarsMarks #[.slice acts L C, .int .u8 n, .bool x, .bool y, .string (S value)] w (fun e w' => e = .returned (.bool true) ∧ Still w w') := by
  obtain ⟨n, rfl⟩ := Int.eq_ofNat_of_zero_le hn0
  refine law12_VarsMarks_calls _ _ _ _ _ _ _ _ _ ?_
  refine (made_spec ha (by decide)).mono ?_
  rintro _ w1 ⟨q1, D1, l, rfl, hv1, hg, hl, hs1⟩
  refine .inl ⟨_, _, _, rfl, by decide, ?_⟩
  rw [show Int.tmod (n : Int) 128 = ((n % 128 : Nat) : Int) from tmod_nat _ 128]
  have h128 : n % 128 < 128 := Nat.mod_lt _ (by decide)
  refine (lname_spec _ (n % 128) (by omega) _ _ _ _).mono ?_
  rintro _ w2 ⟨rfl, hs2⟩
  have hnm : (nameA (n % 128) []).length ≤ 140737488355328 := nameA_len (by decide) (by decide)
  generalize nameA (n % 128) [] = s at *
  have hst2 := hs1.trans hs2
  refine .inl ⟨_, rfl, bsel_of (fun _ => ?_) (fun h100 => ?_)⟩
  · refine awake_spec.mono ?_
    rintro _ w3 ⟨rfl, hs3⟩
    exact .inl ⟨_, rfl, rfl, hst2.trans hs3⟩
  have hv2 := hv1.still hs2
  have hgk := hg.markR hnm x y
  have hlk := markR_len l s x y
  refine (mark_spec hv2 hg.1 (by omega) s x y (by omega)).mono ?_
  rintro _ w3 ⟨q3, D3, rfl, hv3, hs3⟩
  refine .inl ⟨_, _, _, _, rfl, (rmark_spec (hv2.still hs3) (by omega) s x y (by omega)).mono ?_⟩
  rintro _ w4 ⟨q4, D4, rfl, hv4, hs4⟩
  refine .inl ⟨_, _, _, _, rfl, ?_⟩
  have hv3 := hv3.still hs4
  generalize (markR l s x y).2 = e3 at *
  generalize (markR l s x y).1 = k at *
  have hgq := hgk.setR hnm hvl
  have hlq := setR_len k s value
  refine (set_spec hv4 hgk.1 (by omega) s value (by omega)).mono ?_
  rintro _ w5 ⟨q5, D5, rfl, hv5, hs5⟩
  refine .inl ⟨_, _, _, _, rfl, (rset_spec (hv4.still hs5) (by omega) s value (by omega)).mono ?_⟩
  rintro _ w6 ⟨q6, D6, rfl, hv6, hs6⟩
  refine .inl ⟨_, _, _, _, rfl, ?_⟩
  have hv5 := hv5.still hs6
  generalize (setR k s value).2 = e5 at *
  generalize (setR k s value).1 = m at *
  have hgu := hgq.unsetR s
  have hlu := unsetR_len m s
  refine (unset_spec hv6 hgq.1 (by omega) s).mono ?_
  rintro _ w7 ⟨q7, D7, rfl, hv7, hs7⟩
  refine .inl ⟨_, _, _, _, rfl, (runset_spec (hv6.still hs7) (by omega) s).mono ?_⟩
  rintro _ w8 ⟨q8, D8, rfl, hv8, hs8⟩
  refine .inl ⟨_, _, _, _, rfl, awake_spec.mono ?_⟩
  generalize (unsetR m s).2 = e7 at *
  generalize (unsetR m s).1 = u at *
  rintro _ w9 ⟨rfl, hs9⟩
  have hs49 := (((hs5.trans hs6).trans hs7).trans hs8).trans hs9
  have hs69 := (hs7.trans hs8).trans hs9
  have hst9 := ((hst2.trans hs3).trans hs4).trans hs49
  refine .inl ⟨_, rfl, (rsame_spec (hv3.still hs49) (hv4.still hs49) (by omega)).mono ?_⟩
  rintro _ w10 ⟨rfl, hs10⟩
  refine .inl ⟨_, rfl, bsel_of (fun _ => bsel_of (fun _ => ?_) (fun h => by simp at h)) (fun h => by simp at h)⟩
  refine (rsame_spec ((hv5.still hs69).still hs10) ((hv6.still hs69).still hs10) (by omega)).mono ?_
  rintro _ w11 ⟨rfl, hs11⟩
  refine .inl ⟨_, rfl, bsel_of (fun _ => bsel_of (fun _ => ?_) (fun h => by simp at h)) (fun h => by simp at h)⟩
  refine (rsame_spec ((((hv7.still hs8).still hs9).still hs10).still hs11) (((hv8.still hs9).still hs10).still hs11) (by omega)).mono ?_
  rintro _ w12 ⟨rfl, hs12⟩
  refine .inl ⟨_, rfl, bsel_of (fun _ => bsel_of (fun _ => ?_) (fun h => by simp at h)) (fun h => by simp at h)⟩
  have hs9c := (hs10.trans hs11).trans hs12
  have hst12 := hst9.trans hs9c
  have env : ∀ {w1 : World} {q : Option Addr} {D : Nat} {l : List Vr} {Q : Ending → World → Prop}, VarAt w1 q l.length D l → GoodM 140737488355328 l → l.length ≤ 1000 → (∀ w', Still w1 w' → Q (.returned (.bool true)) w') →
      Calls Try.prog fn_vars_Environ #[.slice q l.length D] w1 (fun ed7 w9 => (∃ (r8 : Option Addr) (rL1 rC1 : Nat), ed7 = .returned (.slice r8 rL1 rC1) ∧ Calls Try.prog fn_ref12_Environ #[.slice q l.length D] w9 (fun ed8 w10 => (∃ (r9 : Option Addr) (rL2 rC2 : Nat), ed8 = .returned (.slice r9 rL2 rC2) ∧ Calls Try.prog fn_ref02_Same #[.slice r8 rL1 rC1, .slice r9 rL2 rC2] w10 Q) ∨ (∃ ch8, ed8 = .panicked ch8 ∧ (Ending.panicked ch8 = .returned (.bool true) ∧ Still w w10)))) ∨ (∃ ch7, ed7 = .panicked ch7 ∧ (Ending.panicked ch7 = .returned (.bool true) ∧ Still w w9))) := by
    intro w1 q D l Q hv hg hl hQ
    have hb : ∀ v ∈ l, v.name.length + v.value.length < 9223372036854775806 := fun v hv => by have := hg.2 v hv; omega
    have he := environ_few (l := l) l.length
    rw [List.take_length] at he
    refine (environ_spec hv (by omega) hb).mono ?_
    rintro _ w3 ⟨q3, D3, rfl, ho3, hs3⟩
    refine .inl ⟨_, _, _, rfl, (renviron_spec (hv.still hs3) (by omega) hb).mono ?_⟩
    rintro _ w4 ⟨q4, D4, rfl, ho4, hs4⟩
    refine .inl ⟨_, _, _, rfl, (same_spec (StrsAt.of (ho3.still hs4)) ho4 (by omega)).mono ?_⟩
    rintro _ w5 ⟨rfl, hs5⟩
    rw [decide_eq_true rfl]
    exact hQ _ ((hs3.trans hs4).trans hs5)
  refine env ((hv6.still hs69).still hs9c) hgq (by omega) fun w13 hs13 => ?_
  refine .inl ⟨_, rfl, bsel_of (fun _ => ?_) (fun h => by cases h)⟩
  refine env (((hv4.still hs49).still hs9c).still hs13) hgk (by omega) fun w14 hs14 => ?_
  exact .inl ⟨_, rfl, rfl, (hst12.trans hs13).trans hs14⟩

theorem VarsSets_spec (acts : Option Addr) (L C : Nat) (ha : ActsAt w acts L 140737488355328) (c : Ac) (h1 : c.nm < 256) (h2 : c.raw.length ≤ 140737488355328) (h3 : c.value.length ≤ 140737488355328) (o : Int) (ho0 : 0 ≤ o) (ho1 : o < 256) :
    Calls Try.prog fn_law12_VarsSets #[.slice acts L C, c.val, .int .u8 o] w (fun e w' => e = .returned (.bool true) ∧ Still w w') := by
  obtain ⟨o, rfl⟩ := Int.eq_ofNat_of_zero_le ho0
  refine law12_VarsSets_calls _ _ _ _ _ _ _ _ _ _ _ _ ?_
  refine allocK fun w1 hr1 hs1 hz1 => awake_spec.mono ?_
  rintro _ w2 ⟨rfl, hs2⟩
  refine .inl ⟨_, rfl, bsel_of (fun h => by cases h) (fun _ => (made_spec (L := L) (M := 140737488355328) (fun i hi => ?_) (by decide)).mono ?_)⟩
  · obtain ⟨a, ha, c, hc⟩ := ha i hi
    exact ⟨a, ha, c, hc.still (hs1.trans hs2)⟩
  rintro _ w3 ⟨q3, D3, l, rfl, hv3, hg, hl, hs3⟩
  have hs13 := hs2.trans hs3
  have hr3 := hr1.still hs13
  have hst3 := hs1.trans hs13
  refine .inl ⟨_, _, _, rfl, _, _, _, _, _, _, hr3.cellv rfl, hr3.cellv rfl, hr3.cellv rfl, hr3.cellv rfl, hr3.cellv rfl, hr3.cellv rfl, (lname_spec _ c.nm h1 _ _ _ _).mono ?_⟩
  rintro _ w4 ⟨rfl, hs4⟩
  refine .inl ⟨_, rfl, by decide, ?_⟩
  rw [show Int.tmod (o : Int) 8 = ((o % 8 : Nat) : Int) from tmod_nat _ 8]
  have h8 : o % 8 < 8 := Nat.mod_lt _ (by decide)
  refine (lname_spec _ (o % 8) (by omega) _ _ _ _).mono ?_
  rintro _ w5 ⟨rfl, hs5⟩
  have hnm : (nameA c.nm c.raw).length ≤ 140737488355328 := nameA_len (by omega) (by decide)
  generalize nameA c.nm c.raw = n at *
  generalize nameA (o % 8) [] = s at *
  have hv5 := (hv3.still hs4).still hs5
  refine .inl ⟨_, rfl, (get_spec hv5 hg.1 (by omega) n).mono ?_⟩
  rintro _ w6 ⟨rfl, hs6⟩
  refine .inl ⟨_, _, _, _, _, rfl, boxK rfl (vcell_one (getD n l)) fun w7 hr7 hs7 hz7 => ?_⟩
  refine (get_spec ((hv5.still hs6).still hs7) hg.1 (by omega) s).mono ?_
  rintro _ w8 ⟨rfl, hs8⟩
  refine .inl ⟨_, _, _, _, _, rfl, boxK rfl (vcell_one (getD s l)) fun w9 hr9 hs9 hz9 => ?_⟩
  have hs39 := ((((hs4.trans hs5).trans hs6).trans hs7).trans hs8).trans hs9
  have hr1_9 := hr3.still hs39
  have hr7_9 := (hr7.still hs8).still hs9
  have hv9 := hv3.still hs39
  refine ⟨_, hr1_9.cellv rfl, (set_spec hv9 hg.1 (by omega) n c.value (by omega)).mono ?_⟩
  rintro _ w10 ⟨q10, D10, rfl, hv10, hs10⟩
  have hst10 := (hst3.trans hs39).trans hs10
  have hr1_10 := hr1_9.still hs10
  have hr7_10 := hr7_9.still hs10
  have hr9_10 := hr9.still hs10
  refine .inl ⟨_, _, _, _, rfl, ?_⟩
  rcases Classical.em (¬ isName n = true) with hnmv | hnmv
  · have e : setR l n c.value = ([], 1) := by unfold setR; rw [if_neg hnmv]
    rw [e]
    refine bsel_of (fun _ => ⟨_, hr7_10.cellv rfl, bsel_of (fun _ => ⟨rfl, hst10⟩) (fun _ => ?_)⟩) (fun h => by simp at h)
    refine (risName_spec n (by omega)).mono ?_
    rintro _ w11 ⟨rfl, rfl⟩
    refine .inl ⟨_, rfl, bsel_of (fun _ => ⟨rfl, hst10⟩) (fun h => ?_)⟩
    simp at h
    exact (hnmv h).elim
  have hnmv := Classical.not_not.1 hnmv
  cases hro : (getD n l).ro with
  | true =>
    have e : setR l n c.value = ([], 150) := by unfold setR; rw [if_pos hnmv, if_pos hro]
    rw [e]
    refine bsel_of (fun _ => ⟨_, hr7_10.cellv rfl, bsel_of (fun _ => ⟨rfl, hst10⟩) (fun h => ?_)⟩) (fun h => by simp at h)
    rw [hro] at h
    cases h
  | false =>
    have e : setR l n c.value = (ins ⟨n, c.value, (getD n l).exp, (getD n l).ro⟩ l, 0) := by unfold setR; rw [if_pos hnmv, if_neg (by rw [hro]; decide)]
    rw [e] at hv10 ⊢
    generalize hvd : (⟨n, c.value, (getD n l).exp, (getD n l).ro⟩ : Vr) = v at *
    have hv10 : VarAt w10 q10 (ins v l).length D10 (ins v l) := hv10
    have hvn : v.name = n := by rw [← hvd]
    have hgm : GoodM 140737488355328 (ins v l) := hg.ins (by rw [hvn]; exact hnmv) (by rw [hvn]; exact hnm) (by rw [← hvd]; exact h3)
    have hlm := ins_length v l
    rw [hvn] at hlm
    have hgn : getD n (ins v l) = v := by rw [← hvn, getD, get_ins]; rfl
    have hgi : (get n (ins v l)).isSome = true := by rw [← hvn, get_ins]; rfl
    have hlm' := ins_len v l
    refine bsel_of (fun h => by simp at h) (fun _ => ?_)
    refine (get_spec hv10 hgm.1 (by omega) n).mono ?_
    rintro _ w11 ⟨rfl, hs11⟩
    refine .inl ⟨_, _, _, _, _, rfl, boxK rfl (vcell_one (getD n (ins v l))) fun w12 hr12 hs12 hz12 => ?_⟩
    refine (get_spec ((hv10.still hs11).still hs12) hgm.1 (by omega) s).mono ?_
    rintro _ w13 ⟨rfl, hs13'⟩
    refine .inl ⟨_, _, _, _, _, rfl, boxK rfl (vcell_one (getD s (ins v l))) fun w14 hr14 hs14 hz14 => ?_⟩
    have hs1014 := ((hs11.trans hs12).trans hs13').trans hs14
    refine (unset_spec (hv10.still hs1014) hgm.1 (by omega) n).mono ?_
    have hu : unsetR (ins v l) n = (del n (ins v l), 0) := by unfold unsetR; rw [hgn, if_neg (by rw [← hvd, hro]; decide)]
    rw [hu]
    rintro _ w15 ⟨q15, D15, rfl, hv15, hs15⟩
    have hgk := hgm.del n
    have hlk := del_length n (ins v l)
    rw [hgi, if_pos rfl] at hlk
    refine .inl ⟨_, _, _, _, rfl, (get_spec hv15 hgk.1 (by dsimp only; omega) n).mono ?_⟩
    rintro _ w16 ⟨rfl, hs16⟩
    refine .inl ⟨_, _, _, _, _, rfl, boxK rfl (vcell_one (getD n (del n (ins v l)))) fun w17 hr17 hs17 hz17 => ?_⟩
    have hs1417 := (hs15.trans hs16).trans hs17
    have hs1017 := hs1014.trans hs1417
    have hr1_17 := hr1_10.still hs1017
    have hr7_17 := hr7_10.still hs1017
    have hr9_17 := hr9_10.still hs1017
    have hr12_17 := ((hr12.still hs13').still hs14).still hs1417
    have hr14_17 := hr14.still hs1417
    have hst17 := hst10.trans hs1017
    refine bsel_of (fun h => ?_) (fun _ => ⟨_, hr12_17.cellv rfl, _, hr1_17.cellv rfl, bsel_of (fun h => ?_) (fun _ => ⟨_, hr12_17.cellv rfl, _, hr7_17.cellv rfl, bsel_of (fun h => ?_) (fun _ => bsel_of (fun h => ?_) (fun _ => bsel_of (fun h => ?_) (fun _ => bsel_of (fun h => ?_) (fun _ => bsel_of (fun h => ?_) (fun _ => ?_)))))⟩)⟩)
    · rw [hgi] at h; cases h
    · rw [hgn, ← hvd] at h; simp at h
    · rw [hgn, ← hvd] at h; simp at h
    · simp at h
    · rw [get_del n hgm.1] at h; cases h
    · rw [wrap_i64 (by omega) (by dsimp only; omega)] at h
      have h : ¬ ((((del n (ins v l)).length : Nat) : Int) + 1 = ((ins v l).length : Nat)) := by simpa using h
      omega
    · have : ((get n l).isSome = decide ((((ins v l).length : Nat) : Int) = ((l.length : Nat) : Int))) := by
        cases hq : (get n l).isSome with
        | true => rw [hq, if_pos rfl] at hlm; exact (decide_eq_true (by omega)).symm
        | false => rw [hq, if_neg (by decide)] at hlm; exact (decide_eq_false (by omega)).symm
      rw [this] at h
      simp at h
    · refine bsel_of (fun _ => bsel_of (fun _ => ⟨rfl, hst17⟩) (fun hne => ?_)) (fun h => by cases h)
      have hne : s ≠ v.name := by rw [hvn]; exact of_decide_eq_false hne
      have e2 : get s (ins v l) = get s l := get_ins_other v hne l
      have e3 : getD s (ins v l) = getD s l := by rw [getD, e2, getD]
      refine ⟨_, _, _, _, hr14_17.cellv rfl, hr14_17.cellv rfl, hr14_17.cellv rfl, hr14_17.cellv rfl, _, _, _, _, hr9_17.cellv rfl, hr9_17.cellv rfl, hr9_17.cellv rfl, hr9_17.cellv rfl, bsel_of (fun _ => ⟨by rw [e2]; simp, hst17⟩) (fun h => ?_)⟩
      rw [e3, getD_same] at h
      cases h
end Go.Proofs.Ytmodihbdjnklcaa
