/- Three laws of patterns, without the document's answer: whatever the input, each returns true, and its arguments read as they did. Conditions: none but the given rows' own. -/
import Derived.Test.YtjkbpdhpmcndlaaPatLaw1
import Derived.Test.YtjkbpdhpmcndlaaOpenU8
namespace Go.Proofs.Ytjkbpdhpmcndlaa
open Go.ChangeShapes Go.WideShapes Go.ChangeAt Go.RowKit Vc

theorem Mod.toBelow {W W' : World} (h : Still W W') : Below W.heap.size W W' := h.below (Nat.le_refl _) (fun _ h => h.elim)

set_option maxRecDepth 100000 in
theorem patternSelf_lifted (os : Os) (started : os.Started) (H : Type) (enc : TypeId × Value → H) :
    ReturnsInHanded {} Try.checked os 7 .any (Rows.patternSelfSpec.pre6 enc Try.prog Try.f7 Rows.patternSelfRow.domain false) (Rows.patternSelfSpec.post enc Try.prog Try.f7 false true false false) := by
  refine law_lifted (C := Try.checked) Try.own Try.laidOut started (by kernel_rfl) Try.func7 (by kernel_rfl) (tb := 4) (by kernel_rfl) Try.underlying4 rfl ?_
    (ChangeSpec.witness6 (enc := enc) (C := Try.checked) false ⟨#[], #[.string ⟨#[]⟩, .string ⟨#[]⟩], []⟩ 8 (by kernel_rfl) (by kernel_rfl) (by kernel_rfl) (by kernel_rfl)) ?_
  · intro ds hl
    rw [Try.params7] at hl
    match ds, hl with
    | [d0, d1], _ => rfl
  · intro W base args ds ps hval0 hA
    have hval : ∀ (j : Nat) t v, Try.f7.params[j]? = some t → args[j]? = some v → Value.okWide Try.prog W .any base t v := hval0
    have hA : DataW.TrodAll enc Try.prog W 0 (fun _ => true) true Try.f7.params.toList args.toList ds ps := hA
    rw [Try.params7] at hA hval
    obtain ⟨v0, vs0, d0, ds0, p0, q0, hargs, rfl, rfl, h0, r0⟩ := trodAll_cons hA
    obtain ⟨v1, vs1, d1, ds1, p1, q1, rfl, rfl, rfl, h1, r1⟩ := trodAll_cons r0
    obtain ⟨rfl, rfl, rfl⟩ := trodAll_nil r1
    obtain rfl : args = #[v0, v1] := Array.ext' hargs
    obtain ⟨x0, rfl, _⟩ := open_str Try.underlying9 (hval 0 9 v0 rfl rfl) h0
    obtain ⟨x1, rfl, _⟩ := open_str Try.underlying9 (hval 1 9 v1 rfl rfl) h1
    exact (PatternSelf_spec x0 x1).mono fun e W' h => ⟨h.1, h.2.toBelow⟩
theorem patternSelf_holds : Rows.PatternSelfSaid :=
  OpenClaim.holds_of_wide 7 Try.f7 rfl rfl rfl rfl rfl rfl rfl ⟨rfl, rfl, rfl, rfl, rfl⟩ rfl rfl rfl rfl rfl (by kernel_rfl) Try.func7 (by kernel_rfl)
    (of_decide_eq_true (by kernel_rfl)) (by unfold Func.isWrapper; rw [if_neg (of_decide_eq_false (by kernel_rfl))]; exact ⟨rfl, rfl⟩)
    (fun os started H enc _ => patternSelf_lifted os started H enc)

set_option maxRecDepth 100000 in
theorem patternStars_lifted (os : Os) (started : os.Started) (H : Type) (enc : TypeId × Value → H) :
    ReturnsInHanded {} Try.checked os 8 .any (Rows.patternStarsSpec.pre6 enc Try.prog Try.f8 Rows.patternStarsRow.domain false) (Rows.patternStarsSpec.post enc Try.prog Try.f8 false true false false) := by
  refine law_lifted (C := Try.checked) Try.own Try.laidOut started (by kernel_rfl) Try.func8 (by kernel_rfl) (tb := 4) (by kernel_rfl) Try.underlying4 rfl ?_
    (ChangeSpec.witness6 (enc := enc) (C := Try.checked) false ⟨#[], #[.slice none 0 0, .string ⟨#[]⟩, .string ⟨#[]⟩], []⟩ 8 (by kernel_rfl) (by kernel_rfl) (by kernel_rfl) (by kernel_rfl)) ?_
  · intro ds hl
    rw [Try.params8] at hl
    match ds, hl with
    | [d0, d1, d2], _ => rfl
  · intro W base args ds ps hval0 hA
    have hval : ∀ (j : Nat) t v, Try.f8.params[j]? = some t → args[j]? = some v → Value.okWide Try.prog W .any base t v := hval0
    have hA : DataW.TrodAll enc Try.prog W 0 (fun _ => true) true Try.f8.params.toList args.toList ds ps := hA
    rw [Try.params8] at hA hval
    obtain ⟨v0, vs0, d0, ds0, p0, q0, hargs, rfl, rfl, h0, r0⟩ := trodAll_cons hA
    obtain ⟨v1, vs1, d1, ds1, p1, q1, rfl, rfl, rfl, h1, r1⟩ := trodAll_cons r0
    obtain ⟨v2, vs2, d2, ds2, p2, q2, rfl, rfl, rfl, h2, r2⟩ := trodAll_cons r1
    obtain ⟨rfl, rfl, rfl⟩ := trodAll_nil r2
    obtain rfl : args = #[v0, v1, v2] := Array.ext' hargs
    obtain ⟨x0, L0, C0, rfl, u0⟩ := open_u8s (hval 0 25 v0 rfl rfl) h0
    obtain ⟨x1, rfl, _⟩ := open_str Try.underlying9 (hval 1 9 v1 rfl rfl) h1
    obtain ⟨x2, rfl, _⟩ := open_str Try.underlying9 (hval 2 9 v2 rfl rfl) h2
    exact (PatternStars_spec x0 L0 C0 u0 x1 x2).mono fun e W' h => ⟨h.1, h.2.toBelow⟩
theorem patternStars_holds : Rows.PatternStarsSaid :=
  OpenClaim.holds_of_wide 8 Try.f8 rfl rfl rfl rfl rfl rfl rfl ⟨rfl, rfl, rfl, rfl, rfl⟩ rfl rfl rfl rfl rfl (by kernel_rfl) Try.func8 (by kernel_rfl)
    (of_decide_eq_true (by kernel_rfl)) (by unfold Func.isWrapper; rw [if_neg (of_decide_eq_false (by kernel_rfl))]; exact ⟨rfl, rfl⟩)
    (fun os started H enc _ => patternStars_lifted os started H enc)

set_option maxRecDepth 100000 in
theorem patternCuts_lifted (os : Os) (started : os.Started) (H : Type) (enc : TypeId × Value → H) :
    ReturnsInHanded {} Try.checked os 9 .any (Rows.patternCutsSpec.pre6 enc Try.prog Try.f9 Rows.patternCutsRow.domain false) (Rows.patternCutsSpec.post enc Try.prog Try.f9 false true false false) := by
  refine law_lifted (C := Try.checked) Try.own Try.laidOut started (by kernel_rfl) Try.func9 (by kernel_rfl) (tb := 4) (by kernel_rfl) Try.underlying4 rfl ?_
    (ChangeSpec.witness6 (enc := enc) (C := Try.checked) false ⟨#[], #[.slice none 0 0, .string ⟨#[]⟩, .bool false, .bool false], []⟩ 8 (by kernel_rfl) (by kernel_rfl) (by kernel_rfl) (by kernel_rfl)) ?_
  · intro ds hl
    rw [Try.params9] at hl
    match ds, hl with
    | [d0, d1, d2, d3], _ => rfl
  · intro W base args ds ps hval0 hA
    have hval : ∀ (j : Nat) t v, Try.f9.params[j]? = some t → args[j]? = some v → Value.okWide Try.prog W .any base t v := hval0
    have hA : DataW.TrodAll enc Try.prog W 0 (fun _ => true) true Try.f9.params.toList args.toList ds ps := hA
    rw [Try.params9] at hA hval
    obtain ⟨v0, vs0, d0, ds0, p0, q0, hargs, rfl, rfl, h0, r0⟩ := trodAll_cons hA
    obtain ⟨v1, vs1, d1, ds1, p1, q1, rfl, rfl, rfl, h1, r1⟩ := trodAll_cons r0
    obtain ⟨v2, vs2, d2, ds2, p2, q2, rfl, rfl, rfl, h2, r2⟩ := trodAll_cons r1
    obtain ⟨v3, vs3, d3, ds3, p3, q3, rfl, rfl, rfl, h3, r3⟩ := trodAll_cons r2
    obtain ⟨rfl, rfl, rfl⟩ := trodAll_nil r3
    obtain rfl : args = #[v0, v1, v2, v3] := Array.ext' hargs
    obtain ⟨x0, L0, C0, rfl, u0⟩ := open_u8s (hval 0 25 v0 rfl rfl) h0
    obtain ⟨x1, rfl, _⟩ := open_str Try.underlying9 (hval 1 9 v1 rfl rfl) h1
    obtain ⟨x2, rfl, _, _⟩ := open_bool Try.underlying4 (hval 2 4 v2 rfl rfl) h2
    obtain ⟨x3, rfl, _, _⟩ := open_bool Try.underlying4 (hval 3 4 v3 rfl rfl) h3
    exact (PatternCuts_spec x0 L0 C0 u0 x1 x2 x3).mono fun e W' h => ⟨h.1, h.2.toBelow⟩
theorem patternCuts_holds : Rows.PatternCutsSaid :=
  OpenClaim.holds_of_wide 9 Try.f9 rfl rfl rfl rfl rfl rfl rfl ⟨rfl, rfl, rfl, rfl, rfl⟩ rfl rfl rfl rfl rfl (by kernel_rfl) Try.func9 (by kernel_rfl)
    (of_decide_eq_true (by kernel_rfl)) (by unfold Func.isWrapper; rw [if_neg (of_decide_eq_false (by kernel_rfl))]; exact ⟨rfl, rfl⟩)
    (fun os started H enc _ => patternCuts_lifted os started H enc)

end Go.Proofs.Ytjkbpdhpmcndlaa
