/- The three laws of variables: whatever the input, each returns true, and its arguments read as they did. Conditions: none but the given rows' own. -/
import Derived.Test.YtmodihbdjnklcaaVarOpen
namespace Go.Proofs.Ytmodihbdjnklcaa
open Go.ChangeShapes Go.WideShapes Go.ChangeAt Go.RowKit Vc

set_option maxRecDepth 100000 in
theorem varsPlays_lifted (os : Os) (started : os.Started) (H : Type) (enc : TypeId × Value → H) :
    ReturnsInHanded {} Try.checked os 3 .any (Rows.varsPlaysSpec.pre6 enc Try.prog Try.f3 Rows.varsPlaysRow.domain false) (Rows.varsPlaysSpec.post enc Try.prog Try.f3 false true false false) := by
  refine law_lifted_sized (C := Try.checked) Try.own Try.laidOut started (by kernel_rfl) Try.func3 (by kernel_rfl) (tb := 4) (by kernel_rfl) Try.underlying4 rfl ?_
    (ChangeSpec.witness6 (enc := enc) (C := Try.checked) false ⟨#[], #[.slice none 0 0], []⟩ 8 (by kernel_rfl) (by kernel_rfl) (by kernel_rfl) (by kernel_rfl)) ?_
  · intro ds hl
    rw [Try.params3] at hl
    match ds, hl with
    | [d0], _ => rfl
  · intro W base args ds ps hval0 hA hz0
    have hval : ∀ (j : Nat) t v, Try.f3.params[j]? = some t → args[j]? = some v → Value.okWide Try.prog W .any base t v := hval0
    have hA : DataW.TrodAll enc Try.prog W 0 (fun _ => true) true Try.f3.params.toList args.toList ds ps := hA
    have hz : ∀ (j : Nat) t d, Try.f3.params.toList[j]? = some t → ds[j]? = some d → Sized Try.prog t d := hz0
    clear hval0 hz0
    rw [Try.params3] at hA hval hz
    obtain ⟨v0, vs0, d0, ds0, p0, q0, hargs, rfl, rfl, h0, r0⟩ := trodAll_cons hA
    obtain ⟨rfl, rfl, rfl⟩ := trodAll_nil r0
    obtain rfl : args = #[v0] := Array.ext' hargs
    obtain ⟨p0, L0, C0, rfl, u0⟩ := open_acts (hval 0 _ v0 rfl rfl) h0 (hz 0 _ d0 rfl rfl)
    exact (VarsPlays_spec p0 L0 C0 u0).mono fun e W' h => ⟨h.1, h.2.toBelow⟩
theorem varsPlays_holds : Rows.VarsPlaysSaid :=
  OpenClaim.holds_of_wide 3 Try.f3 rfl rfl rfl rfl rfl rfl rfl ⟨rfl, rfl, rfl, rfl, rfl⟩ rfl rfl rfl rfl rfl (by kernel_rfl) Try.func3 (by kernel_rfl)
    (of_decide_eq_true (by kernel_rfl)) (by unfold Func.isWrapper; rw [if_neg (of_decide_eq_false (by kernel_rfl))]; exact ⟨rfl, rfl⟩)
    (fun os started H enc _ => varsPlays_lifted os started H enc)

set_option maxRecDepth 100000 in
theorem varsMarks_lifted (os : Os) (started : os.Started) (H : Type) (enc : TypeId × Value → H) :
    ReturnsInHanded {} Try.checked os 5 .any (Rows.varsMarksSpec.pre6 enc Try.prog Try.f5 Rows.varsMarksRow.domain false) (Rows.varsMarksSpec.post enc Try.prog Try.f5 false true false false) := by
  refine law_lifted_sized (C := Try.checked) Try.own Try.laidOut started (by kernel_rfl) Try.func5 (by kernel_rfl) (tb := 4) (by kernel_rfl) Try.underlying4 rfl ?_
    (ChangeSpec.witness6 (enc := enc) (C := Try.checked) false ⟨#[], #[.slice none 0 0, .int .u8 0, .bool false, .bool false, .string ⟨#[]⟩], []⟩ 8 (by kernel_rfl) (by kernel_rfl) (by kernel_rfl) (by kernel_rfl)) ?_
  · intro ds hl
    rw [Try.params5] at hl
    match ds, hl with
    | [d0, d1, d2, d3, d4], _ => rfl
  · intro W base args ds ps hval0 hA hz0
    have hval : ∀ (j : Nat) t v, Try.f5.params[j]? = some t → args[j]? = some v → Value.okWide Try.prog W .any base t v := hval0
    have hA : DataW.TrodAll enc Try.prog W 0 (fun _ => true) true Try.f5.params.toList args.toList ds ps := hA
    have hz : ∀ (j : Nat) t d, Try.f5.params.toList[j]? = some t → ds[j]? = some d → Sized Try.prog t d := hz0
    clear hval0 hz0
    rw [Try.params5] at hA hval hz
    obtain ⟨v0, vs0, d0, ds0, p0, q0, hargs, rfl, rfl, h0, r0⟩ := trodAll_cons hA
    obtain ⟨v1, vs1, d1, ds1, p1, q1, rfl, rfl, rfl, h1, r1⟩ := trodAll_cons r0
    obtain ⟨v2, vs2, d2, ds2, p2, q2, rfl, rfl, rfl, h2, r2⟩ := trodAll_cons r1
    obtain ⟨v3, vs3, d3, ds3, p3, q3, rfl, rfl, rfl, h3, r3⟩ := trodAll_cons r2
    obtain ⟨v4, vs4, d4, ds4, p4, q4, rfl, rfl, rfl, h4, r4⟩ := trodAll_cons r3
    obtain ⟨rfl, rfl, rfl⟩ := trodAll_nil r4
    obtain rfl : args = #[v0, v1, v2, v3, v4] := Array.ext' hargs
    obtain ⟨p0, L0, C0, rfl, u0⟩ := open_acts (hval 0 _ v0 rfl rfl) h0 (hz 0 _ d0 rfl rfl)
    obtain ⟨x1, rfl, _, _, w1⟩ := open_int Try.underlying5 (hval 1 _ v1 rfl rfl) h1
    obtain ⟨x2, rfl, _, _⟩ := open_bool Try.underlying4 (hval 2 _ v2 rfl rfl) h2
    obtain ⟨x3, rfl, _, _⟩ := open_bool Try.underlying4 (hval 3 _ v3 rfl rfl) h3
    obtain ⟨x4, rfl, l4⟩ := open_strS Try.underlying9 (hval 4 _ v4 rfl rfl) h4 (hz 4 _ d4 rfl rfl)
    exact (VarsMarks_spec p0 L0 C0 u0 x1 (wf_u8 w1).1 (wf_u8 w1).2 x2 x3 x4 l4).mono fun e W' h => ⟨h.1, h.2.toBelow⟩
theorem varsMarks_holds : Rows.VarsMarksSaid :=
  OpenClaim.holds_of_wide 5 Try.f5 rfl rfl rfl rfl rfl rfl rfl ⟨rfl, rfl, rfl, rfl, rfl⟩ rfl rfl rfl rfl rfl (by kernel_rfl) Try.func5 (by kernel_rfl)
    (of_decide_eq_true (by kernel_rfl)) (by unfold Func.isWrapper; rw [if_neg (of_decide_eq_false (by kernel_rfl))]; exact ⟨rfl, rfl⟩)
    (fun os started H enc _ => varsMarks_lifted os started H enc)

set_option maxRecDepth 100000 in
theorem varsSets_lifted (os : Os) (started : os.Started) (H : Type) (enc : TypeId × Value → H) :
    ReturnsInHanded {} Try.checked os 4 .any (Rows.varsSetsSpec.pre6 enc Try.prog Try.f4 Rows.varsSetsRow.domain false) (Rows.varsSetsSpec.post enc Try.prog Try.f4 false true false false) := by
  refine law_lifted_sized (C := Try.checked) Try.own Try.laidOut started (by kernel_rfl) Try.func4 (by kernel_rfl) (tb := 4) (by kernel_rfl) Try.underlying4 rfl ?_
    (ChangeSpec.witness6 (enc := enc) (C := Try.checked) false ⟨#[], #[.slice none 0 0, .agg #[.int .u8 0, .int .u8 0, .string ⟨#[]⟩, .string ⟨#[]⟩, .bool false, .bool false], .int .u8 0], []⟩ 8 (by kernel_rfl) (by kernel_rfl) (by kernel_rfl) (by kernel_rfl)) ?_
  · intro ds hl
    rw [Try.params4] at hl
    match ds, hl with
    | [d0, d1, d2], _ => rfl
  · intro W base args ds ps hval0 hA hz0
    have hval : ∀ (j : Nat) t v, Try.f4.params[j]? = some t → args[j]? = some v → Value.okWide Try.prog W .any base t v := hval0
    have hA : DataW.TrodAll enc Try.prog W 0 (fun _ => true) true Try.f4.params.toList args.toList ds ps := hA
    have hz : ∀ (j : Nat) t d, Try.f4.params.toList[j]? = some t → ds[j]? = some d → Sized Try.prog t d := hz0
    clear hval0 hz0
    rw [Try.params4] at hA hval hz
    obtain ⟨v0, vs0, d0, ds0, p0, q0, hargs, rfl, rfl, h0, r0⟩ := trodAll_cons hA
    obtain ⟨v1, vs1, d1, ds1, p1, q1, rfl, rfl, rfl, h1, r1⟩ := trodAll_cons r0
    obtain ⟨v2, vs2, d2, ds2, p2, q2, rfl, rfl, rfl, h2, r2⟩ := trodAll_cons r1
    obtain ⟨rfl, rfl, rfl⟩ := trodAll_nil r2
    obtain rfl : args = #[v0, v1, v2] := Array.ext' hargs
    obtain ⟨p0, L0, C0, rfl, u0⟩ := open_acts (hval 0 _ v0 rfl rfl) h0 (hz 0 _ d0 rfl rfl)
    obtain ⟨c1, rfl, _, k11, k21, k31⟩ := open_act (hval 1 _ v1 rfl rfl) h1 (hz 1 _ d1 rfl rfl)
    obtain ⟨x2, rfl, _, _, w2⟩ := open_int Try.underlying5 (hval 2 _ v2 rfl rfl) h2
    exact (VarsSets_spec p0 L0 C0 u0 c1 k11 k21 k31 x2 (wf_u8 w2).1 (wf_u8 w2).2).mono fun e W' h => ⟨h.1, h.2.toBelow⟩
theorem varsSets_holds : Rows.VarsSetsSaid :=
  OpenClaim.holds_of_wide 4 Try.f4 rfl rfl rfl rfl rfl rfl rfl ⟨rfl, rfl, rfl, rfl, rfl⟩ rfl rfl rfl rfl rfl (by kernel_rfl) Try.func4 (by kernel_rfl)
    (of_decide_eq_true (by kernel_rfl)) (by unfold Func.isWrapper; rw [if_neg (of_decide_eq_false (by kernel_rfl))]; exact ⟨rfl, rfl⟩)
    (fun os started H enc _ => varsSets_lifted os started H enc)

end Go.Proofs.Ytmodihbdjnklcaa
