/- The three laws of the device: whatever the input, each returns true, and its arguments read as they did. Conditions: none but the given rows' own. -/
import Derived.Test.YtenmimhigfdagaaDeviceLaw
import Derived.Test.YtenmimhigfdagaaOpen
namespace Go.Proofs.Ytenmimhigfdagaa
open Go.ChangeShapes Go.WideShapes Go.ChangeAt Go.RowKit Vc

theorem Mod.toBelow {W W' : World} (h : Still W W') : Below W.heap.size W W' := h.below (Nat.le_refl _) (fun _ h => h.elim)

theorem open_acts {H : Type} {enc : TypeId × Value → H} {W : World} {base b0 : Nat} {spare : Nat → Bool} {held : Bool} {r : Reach} {v : Value} {d : DataW H} {ps : List MemPlace} (hval : Value.okWide Try.prog W r b0 22 v)
    (h : DataW.Trod enc Try.prog W base spare held 22 v d ps) : ∃ p L C, v = .slice p L C ∧ Acts W p L := by
  obtain ⟨p, L, C, rfl⟩ := okWide_slice Try.underlying22 hval
  refine ⟨p, L, C, rfl, ?_⟩
  obtain ⟨fuel, h⟩ := h
  rcases open_slice_fields Try.underlying22 Try.underlying33 (by kernel_rfl) (by kernel_rfl) h with ⟨hc, _⟩ | ⟨a, len, cap, m, D, Pl, hc, _, hl, _, hm, _, hf⟩
  · simp [Value.cells] at hc
    obtain ⟨rfl, rfl, rfl⟩ := hc
    intro i hi
    omega
  · simp [Value.cells] at hc
    obtain ⟨rfl, rfl, rfl⟩ := hc
    intro i hi
    obtain ⟨ys, n, _, _, _, hf⟩ := hf i (by rw [hm]; split <;> omega)
    obtain ⟨v0, y0, c0, _, t0⟩ := hf 0 _ rfl
    obtain ⟨v1, y1, c1, _, t1⟩ := hf 1 _ rfl
    obtain ⟨v2, y2, c2, _, t2⟩ := hf 2 _ rfl
    obtain ⟨v3, y3, c3, _, t3⟩ := hf 3 _ rfl
    obtain ⟨v4, y4, c4, _, t4⟩ := hf 4 _ rfl
    obtain ⟨x0, rfl, _⟩ := trod_intcell Try.underlying3 t0
    obtain ⟨x1, rfl, _⟩ := trod_intcell Try.underlying3 t1
    obtain ⟨x2, rfl, w2⟩ := trod_intcell Try.underlying3 t2
    obtain ⟨x3, rfl, _⟩ := trod_strcell Try.underlying9 t3
    obtain ⟨x4, rfl, w4⟩ := trod_intcell Try.underlying31 t4
    refine ⟨a, rfl, x0, x1, x2, x3, x4, c0, ?_, ?_, ?_, ?_, (wf_i64 w2).2, (wf_u64 w4).1, (wf_u64 w4).2⟩
    · rw [Go.Deep.add_add]; exact c1
    · rw [Go.Deep.add_add]; exact c2
    · rw [Go.Deep.add_add]; exact c3
    · rw [Go.Deep.add_add]; exact c4

set_option maxRecDepth 100000 in
theorem devicePlays_lifted (os : Os) (started : os.Started) (H : Type) (enc : TypeId × Value → H) :
    ReturnsInHanded {} Try.checked os 3 .any (Rows.devicePlaysSpec.pre6 enc Try.prog Try.f3 Rows.devicePlaysRow.domain false) (Rows.devicePlaysSpec.post enc Try.prog Try.f3 false true false false) := by
  refine law_lifted (C := Try.checked) Try.own Try.laidOut started (by kernel_rfl) Try.func3 (by kernel_rfl) (tb := 4) (by kernel_rfl) Try.underlying4 rfl ?_
    (ChangeSpec.witness6 (enc := enc) (C := Try.checked) false ⟨#[], #[.int .i64 0, .slice none 0 0], []⟩ 8 (by kernel_rfl) (by kernel_rfl) (by kernel_rfl) (by kernel_rfl)) ?_
  · intro ds hl
    rw [Try.params3] at hl
    match ds, hl with
    | [d0, d1], _ => rfl
  · intro W base args ds ps hval0 hA
    have hval : ∀ (j : Nat) t v, Try.f3.params[j]? = some t → args[j]? = some v → Value.okWide Try.prog W .any base t v := hval0
    have hA : DataW.TrodAll enc Try.prog W 0 (fun _ => true) true Try.f3.params.toList args.toList ds ps := hA
    rw [Try.params3] at hA hval
    obtain ⟨v0, v1, d0, d1, p0, p1, rfl, rfl, rfl, h0, h1⟩ := trodAll_two hA
    obtain ⟨n, rfl, _, _, wn⟩ := open_int Try.underlying3 (hval 0 3 v0 rfl rfl) h0
    obtain ⟨p, L, C, rfl, hacts⟩ := open_acts (hval 1 22 v1 rfl rfl) h1
    exact (DevicePlays_spec n p L C hacts).mono fun e W' h => ⟨h.1, h.2.toBelow⟩
theorem devicePlays_holds : Rows.DevicePlaysSaid :=
  OpenClaim.holds_of_wide 3 Try.f3 rfl rfl rfl rfl rfl rfl rfl ⟨rfl, rfl, rfl, rfl, rfl⟩ rfl rfl rfl rfl rfl (by kernel_rfl) Try.func3 (by kernel_rfl)
    (of_decide_eq_true (by kernel_rfl)) (by unfold Func.isWrapper; rw [if_neg (of_decide_eq_false (by kernel_rfl))]; exact ⟨rfl, rfl⟩)
    (fun os started H enc _ => devicePlays_lifted os started H enc)

set_option maxRecDepth 100000 in
theorem deviceSmall_lifted (os : Os) (started : os.Started) (H : Type) (enc : TypeId × Value → H) :
    ReturnsInHanded {} Try.checked os 4 .any (Rows.deviceSmallSpec.pre6 enc Try.prog Try.f4 Rows.deviceSmallRow.domain false) (Rows.deviceSmallSpec.post enc Try.prog Try.f4 false true false false) := by
  refine law_lifted (C := Try.checked) Try.own Try.laidOut started (by kernel_rfl) Try.func4 (by kernel_rfl) (tb := 4) (by kernel_rfl) Try.underlying4 rfl ?_
    (ChangeSpec.witness6 (enc := enc) (C := Try.checked) false ⟨#[], #[.int .u8 0, .slice none 0 0], []⟩ 8 (by kernel_rfl) (by kernel_rfl) (by kernel_rfl) (by kernel_rfl)) ?_
  · intro ds hl
    rw [Try.params4] at hl
    match ds, hl with
    | [d0, d1], _ => rfl
  · intro W base args ds ps hval0 hA
    have hval : ∀ (j : Nat) t v, Try.f4.params[j]? = some t → args[j]? = some v → Value.okWide Try.prog W .any base t v := hval0
    have hA : DataW.TrodAll enc Try.prog W 0 (fun _ => true) true Try.f4.params.toList args.toList ds ps := hA
    rw [Try.params4] at hA hval
    obtain ⟨v0, v1, d0, d1, p0, p1, rfl, rfl, rfl, h0, h1⟩ := trodAll_two hA
    obtain ⟨n, rfl, _, _, wn⟩ := open_int Try.underlying5 (hval 0 5 v0 rfl rfl) h0
    obtain ⟨p, L, C, rfl, hacts⟩ := open_acts (hval 1 22 v1 rfl rfl) h1
    exact (DeviceSmall_spec n (wf_u8 wn).1 (wf_u8 wn).2 p L C hacts).mono fun e W' h => ⟨h.1, h.2.toBelow⟩
theorem deviceSmall_holds : Rows.DeviceSmallSaid :=
  OpenClaim.holds_of_wide 4 Try.f4 rfl rfl rfl rfl rfl rfl rfl ⟨rfl, rfl, rfl, rfl, rfl⟩ rfl rfl rfl rfl rfl (by kernel_rfl) Try.func4 (by kernel_rfl)
    (of_decide_eq_true (by kernel_rfl)) (by unfold Func.isWrapper; rw [if_neg (of_decide_eq_false (by kernel_rfl))]; exact ⟨rfl, rfl⟩)
    (fun os started H enc _ => deviceSmall_lifted os started H enc)

set_option maxRecDepth 100000 in
theorem deviceTears_lifted (os : Os) (started : os.Started) (H : Type) (enc : TypeId × Value → H) :
    ReturnsInHanded {} Try.checked os 5 .any (Rows.deviceTearsSpec.pre6 enc Try.prog Try.f5 Rows.deviceTearsRow.domain false) (Rows.deviceTearsSpec.post enc Try.prog Try.f5 false true false false) := by
  refine law_lifted (C := Try.checked) Try.own Try.laidOut started (by kernel_rfl) Try.func5 (by kernel_rfl) (tb := 4) (by kernel_rfl) Try.underlying4 rfl ?_
    (ChangeSpec.witness6 (enc := enc) (C := Try.checked) false ⟨#[], #[.string ⟨#[]⟩, .string ⟨#[]⟩, .string ⟨#[]⟩, .int .u64 0, .int .u8 0], []⟩ 8 (by kernel_rfl) (by kernel_rfl) (by kernel_rfl) (by kernel_rfl)) ?_
  · intro ds hl
    rw [Try.params5] at hl
    match ds, hl with
    | [d0, d1, d2, d3, d4], _ => rfl
  · intro W base args ds ps hval0 hA
    have hval : ∀ (j : Nat) t v, Try.f5.params[j]? = some t → args[j]? = some v → Value.okWide Try.prog W .any base t v := hval0
    have hA : DataW.TrodAll enc Try.prog W 0 (fun _ => true) true Try.f5.params.toList args.toList ds ps := hA
    rw [Try.params5] at hA hval
    obtain ⟨v0, vs0, d0, ds0, p0, q0, hargs, rfl, rfl, h0, r0⟩ := trodAll_cons hA
    obtain ⟨v1, vs1, d1, ds1, p1, q1, rfl, rfl, rfl, h1, r1⟩ := trodAll_cons r0
    obtain ⟨v2, vs2, d2, ds2, p2, q2, rfl, rfl, rfl, h2, r2⟩ := trodAll_cons r1
    obtain ⟨v3, vs3, d3, ds3, p3, q3, rfl, rfl, rfl, h3, r3⟩ := trodAll_cons r2
    obtain ⟨v4, vs4, d4, ds4, p4, q4, rfl, rfl, rfl, h4, r4⟩ := trodAll_cons r3
    obtain ⟨rfl, rfl, rfl⟩ := trodAll_nil r4
    obtain rfl : args = #[v0, v1, v2, v3, v4] := Array.ext' hargs
    obtain ⟨s0, rfl, _⟩ := open_str Try.underlying9 (hval 0 9 v0 rfl rfl) h0
    obtain ⟨s1, rfl, _⟩ := open_str Try.underlying9 (hval 1 9 v1 rfl rfl) h1
    obtain ⟨s2, rfl, _⟩ := open_str Try.underlying9 (hval 2 9 v2 rfl rfl) h2
    obtain ⟨m, rfl, _, _, wm⟩ := open_int Try.underlying31 (hval 3 31 v3 rfl rfl) h3
    obtain ⟨k, rfl, _, _, wk⟩ := open_int Try.underlying5 (hval 4 5 v4 rfl rfl) h4
    exact (DeviceTears_spec s0 s1 s2 m k (wf_u64 wm).1 (wf_u64 wm).2 (wf_u8 wk).1 (wf_u8 wk).2).mono fun e W' h => ⟨h.1, h.2.toBelow⟩
theorem deviceTears_holds : Rows.DeviceTearsSaid :=
  OpenClaim.holds_of_wide 5 Try.f5 rfl rfl rfl rfl rfl rfl rfl ⟨rfl, rfl, rfl, rfl, rfl⟩ rfl rfl rfl rfl rfl (by kernel_rfl) Try.func5 (by kernel_rfl)
    (of_decide_eq_true (by kernel_rfl)) (by unfold Func.isWrapper; rw [if_neg (of_decide_eq_false (by kernel_rfl))]; exact ⟨rfl, rfl⟩)
    (fun os started H enc _ => deviceTears_lifted os started H enc)
end Go.Proofs.Ytenmimhigfdagaa
